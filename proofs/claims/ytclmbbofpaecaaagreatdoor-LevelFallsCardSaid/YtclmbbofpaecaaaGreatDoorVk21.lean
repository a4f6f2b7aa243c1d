/- Part 21 of the proof. -/
import Derived.Test.YtclmbbofpaecaaaGreatDoorVk20
set_option linter.all false
set_option linter.unusedVariables false
set_option linter.unusedSimpArgs false
set_option linter.unusedSectionVars false
open Bool renaming and_self → zJ, not_true → qD, not_false → qH, false_and → qM, true_and → qY
open Int renaming toNat_natCast → qO, mul_comm → yV
open List renaming getElem?_eq_getElem → zF, set_cons_succ → zG, getD_eq_getElem?_getD → zH, set_cons_zero → zI, all_cons → zK, all_nil → zL, getElem?_eq_none → zO, length_cons → zW, getElem_mem → zX, length_append → zY, getElem?_map → qC, take_succ_eq_append_getElem → qF, not_mem_nil → qT, flatMap_cons → yC, mem_cons → yF, take_length → yH, length_map → yJ, take_of_length_le → yO
open Nat renaming reduceLeDiff → zA, reduceEqDiff → zB, reduceAdd → zC, reduceBEq → zD, le_of_ble_eq_true → zE, le_refl → zN, lt_or_ge → zV, zero_le → qN, not_lt_zero → yA
open Option renaming map_some → zZ
open Option.some renaming injEq → xA
section
set_option maxHeartbeats 1000000
namespace Go.Av.Lx
open Go Go.Av Go.Av.Tb Go.Av.Fx Go.Proofs
open Go.Lv (Sight Survey Sw Sv SightOk Leg LegOk RangeOk Tun TunOk Try TryOk Stp fallW meetL meetH bestAt driveF wideI)
open Go.Fw (Sq ent Bd Mat)
abbrev zeroR:AV:=.agg [.nilS,.nilS]
def raskA (s:Survey) (fine:Bool):AV:=
 if zAn s && fine then (match Lv.knownV s with
  | some V=>.tuple [rA V,.int .i64 0]
  | none=>.tuple [zeroR,.int .i64 7])
 else .tuple [zeroR,.int .i64 2]
theorem raskA_bnd (s:Survey) (fine:Bool):(raskA s fine).bnd 0 0=true:=by
 unfold raskA
 split
 ·split
  ·rename_i V _
   have:=rA_bnd 0 0 V
   show bndL 0 0 [rA V,.int .i64 0]=true
   simp only [bndL,this];rfl
  ·rfl
 ·rfl
theorem lasked_pc (s:Survey) (hl:okL s.sights.length) (fine:Bool):PC Tryz.prog 27 [surA s,.bool fine] (.pure (raskA s fine)):=by
 refine PC.of_empty (AC.run (E_ok _) mix Tryz.func27 m27 rfl rfl rfl (zE rfl) ?_) (by simp [bndL,AV.bnd]) (raskA_bnd s fine)
 unfold raskA
 simp only [go_sem,boxA,zB,zD,zC,reduceIte,reduceCtorEq,zA]
 refine cp n33 (rSurvey_pc s hl) (SubL.refl _) ?_
 cases hs:zAn s
 ·simp only [go_sem,zAj,qH,qM,zAd,AV.cells,AV.one,zK,zL,zJ,splice,zI,zG,Tryz.f27,zB,zD,zC,reduceIte,reduceCtorEq,zA]
  all_goals rfl
 cases fine
 ·simp only [go_sem,zAj,qH,qD,Bool.and_false,zAd,AV.cells,AV.one,zK,zL,zJ,splice,zI,zG,Tryz.f27,zB,zD,zC,reduceIte,reduceCtorEq,zA]
  all_goals rfl
 have hv:=zDm.1 hs
 simp only [go_sem,zAj,qD,zB,zD,zC,reduceIte,reduceCtorEq,zA]
 refine cp n65 (rKnown_pc s hv.toSw (by have:=hv.many;omega)) (SubL.refl _) ?_
 unfold rknownA
 cases hV:Lv.knownV s with
 | none =>
  simp only [go_sem,zAc,zAj,qH,zJ,zAd,AV.cells,AV.one,zK,zL,splice,zI,zG,Tryz.f27,zB,zD,zC,reduceIte,reduceCtorEq,zA]
  all_goals rfl
 | some V =>
  simp only [go_sem,zAc,zAj,qD,zJ,zAd,AV.cells,AV.one,zK,zL,splice,zI,zG,Tryz.f27,zB,zD,zC,reduceIte,reduceCtorEq,zA]
  all_goals rfl
theorem JoinP.far1 {s:Survey} {V:Mat} {i j:Int} (h:JoinP s V i j):ent V i.toNat j.toNat<far∧ent V j.toNat i.toNat<far:=by
 have:=h.e1;have:=h.e2
 have:far=1099511627776:=rfl
 omega
theorem rFalls_pc (s:Survey) (V:Mat) (x:Leg) (lo hi:Int) (hx:LegOk s.stations x) (hr:RangeOk lo hi) (hj:JoinP s V x.frm x.to):PC Tryz.prog 41 [rA V,.agg (legC x),.int .i64 lo,.int .i64 hi] (.pure (.int .i64 (fallW V x lo hi))):=by
 have hb:=rA_bnd 0 0 V
 refine PC.of_empty (AC.run (E_ok _) mix Tryz.func41 m41 rfl rfl rfl (zE rfl) ?_) (by simp only [bndL,hb];rfl) rfl
 obtain ⟨f,t,g⟩:=x
 obtain ⟨s1,s2⟩:=Lv.leg_small hx hr
 obtain ⟨f1,f2⟩:=hj.far1
 obtain ⟨sq,hi',hj',e1,e2⟩:=hj
 simp only at s1 s2 hi' hj' e1 e2 f1 f2
 obtain ⟨a,rfl⟩:∃ a:Nat,f=a:=⟨f.toNat,by omega⟩
 obtain ⟨b,rfl⟩:∃ b:Nat,t=b:=⟨t.toNat,by omega⟩
 have ha:a<Lv.num s:=by show a<s.stations.toNat;omega
 have hb:b<Lv.num s:=by show b<s.stations.toNat;omega
 unfold fallW
 simp only [qO] at e1 e2 f1 f2 ⊢
 have w1:IntKind.i64.wrap (lo * g)=g * lo:=by rw [yV];exact wrap64 (by omega)
 have w2:IntKind.i64.wrap (hi * g)=g * hi:=by rw [yV];exact wrap64 (by omega)
 have w3:IntKind.i64.wrap (0 - ent V a b) = -ent V a b:=by rw [wrap64 (by omega)];omega
 simp only [go_sem,boxA,zB,zD,zC,reduceIte,reduceCtorEq,zA]
 refine cp n31 (rBounds_pc sq hb ha f2 f1) (SubL.refl _) ?_
 by_cases h1:-ent V a b ≥ g * lo
 ·by_cases h2:ent V b a≤g * hi
  ·rw [if_pos ⟨h1,h2⟩]
   simp only [go_sem,spanA,w1,w2,w3,h1,h2,decide_true,Tryz.f41,zB,zD,zC,reduceIte,reduceCtorEq,zA]
  ·rw [if_neg (fun hh=>h2 hh.2)]
   by_cases h3:ent V b a<g * lo
   ·rw [if_pos (.inl h3)]
    simp only [go_sem,spanA,w1,w2,w3,h1,h2,h3,decide_true,decide_false,Tryz.f41,zB,zD,zC,reduceIte,reduceCtorEq,zA]
   ·by_cases h4:-ent V a b > g * hi
    ·rw [if_pos (.inr h4)]
     simp only [go_sem,spanA,w1,w2,w3,h1,h2,h3,h4,decide_true,decide_false,Tryz.f41,zB,zD,zC,reduceIte,reduceCtorEq,zA]
    ·rw [if_neg (by omega)]
     simp only [go_sem,spanA,w1,w2,w3,h1,h2,h3,h4,decide_true,decide_false,Tryz.f41,zB,zD,zC,reduceIte,reduceCtorEq,zA]
 ·rw [if_neg (fun hh=>h1 hh.1)]
  by_cases h3:ent V b a<g * lo
  ·rw [if_pos (.inl h3)]
   simp only [go_sem,spanA,w1,w2,w3,h1,h3,decide_true,decide_false,Tryz.f41,zB,zD,zC,reduceIte,reduceCtorEq,zA]
  ·by_cases h4:-ent V a b > g * hi
   ·rw [if_pos (.inr h4)]
    simp only [go_sem,spanA,w1,w2,w3,h1,h3,h4,decide_true,decide_false,Tryz.f41,zB,zD,zC,reduceIte,reduceCtorEq,zA]
   ·rw [if_neg (by omega)]
    simp only [go_sem,spanA,w1,w2,w3,h1,h3,h4,decide_true,decide_false,Tryz.f41,zB,zD,zC,reduceIte,reduceCtorEq,zA]
def leastF (f:Nat→Int) (k:Nat):Int:=if k=0 then -1 else f (bestAt f (k - 1))
set_option maxHeartbeats 1000000
theorem Same_pc (a b:List Int) (ha:okL a.length) (hb:okL b.length):PC Tryz.prog 29 [sl a,sl b] (.pure (.bool (decide (a=b)))):=by
 refine PC.of_empty (AC.run (E_ok _) mix Tryz.func29 m29 rfl rfl rfl (zE rfl) ?_) (by simp [bndL,AV.bnd]) rfl
 by_cases hl:a.length=b.length
 ·have hd:decide ((a.length:Int)≠b.length)=false:=decide_eq_false (by omega)
  simp only [go_sem,zAa,hd,zB,zD,zC,reduceIte,reduceCtorEq,zA]
  refine zBk a.length (fun k => ∀ i (h1:i<k) (h2:i<a.length) (h3:i<b.length),a[i]=b[i]) (fun k=>[(0,sl a),(1,sl b),(5,.int .i64 (k:Nat))]) (fun _=>St.empty) (fun i hi=>absurd hi (yA _)) rfl rfl ?_
  intro k hk hP I hI
  by_cases hlt:k<a.length
  ·have h1:(k:Int)<a.length:=by omega
   have x1:0≤(k:Int)∧(k:Int)<a.length:=by omega
   have x2:0≤(k:Int)∧(k:Int)<b.length:=by omega
   have h4:IntKind.i64.wrap ((k:Int)+1)=(k+1:Nat):=wrap64 (by omega)
   have hkb:k<b.length:=by omega
   have g1:a[k]? = some a[k]:=zF hlt
   have g2:b[k]? = some b[k]:=zF hkb
   by_cases e:a[k]=b[k]
   ·have hd:decide (a[k]≠b[k])=false:=decide_eq_false fun hh=>hh e
    simp only [go_sem,l29_0,zAa,h1,decide_true,x1,x2,zAx,g1,g2,zAe,and_self,zZ,hd,h4,zB,zD,zC,reduceIte,reduceCtorEq,zA]
    refine hI hlt fun i h1 h2 h3 => ?_
    by_cases ei:i=k
    ·subst ei;exact e
    ·exact hP i (by omega) h2 h3
   ·have hd:decide (a[k]≠b[k])=true:=decide_eq_true e
    have hne:decide (a=b)=false:=decide_eq_false fun hh=>by subst hh;exact e rfl
    simp only [go_sem,l29_0,zAa,h1,decide_true,x1,x2,zAx,g1,g2,zAe,and_self,zZ,hd,Tryz.f29,zB,zD,zC,reduceIte,reduceCtorEq,zA]
    rw [hne]
  ·have h1:¬ (k:Int)<a.length:=by omega
   have he:decide (a=b)=true:=decide_eq_true (List.ext_getElem hl fun i h1 h2=>hP i (by omega) h1 h2)
   simp only [go_sem,l29_0,zAa,h1,decide_false,Tryz.f29,zB,zD,zC,reduceIte,reduceCtorEq,zA]
   rw [he]
 ·have hd:decide ((a.length:Int)≠b.length)=true:=decide_eq_true (by omega)
  have hne:decide (a=b)=false:=decide_eq_false fun hh=>hl (by rw [hh])
  simp only [go_sem,zAa,hd,Tryz.f29,zB,zD,zC,reduceIte,reduceCtorEq,zA]
  rw [hne]
theorem neq_stp (x y:Stp):binA T .neq 127 (.agg (stpC x)) (.agg (stpC y))=some (.bool (decide (x≠y))):=by
 obtain ⟨a,p⟩:=x
 obtain ⟨b,q⟩:=y
 have e:binA T .neq 127 (.agg [.int .i64 a,.bool p]) (.agg [.int .i64 b,.bool q])=(if a == b then (if p == q then some true else some false) else some false).map (.bool !·):=rfl
 show binA T .neq 127 (.agg [.int .i64 a,.bool p]) (.agg [.int .i64 b,.bool q])=_
 rw [e]
 by_cases h1:a=b
 ·subst h1
  by_cases h2:p=q
  ·subst h2;simp
  ·simp [h2]
 ·simp [h1]
theorem stps_at (l:List Stp) (k:Nat) (h:k<l.length):((stpsC l).drop (k * 2)).take 2=stpC l[k]:=cat_at (f:=stpC) (w:=2) (fun _=>rfl) l k h
theorem SameSteps_pc (a b:List Stp) (ha:okL a.length) (hb:okL b.length):PC Tryz.prog 76 [stpsA a,stpsA b] (.pure (.bool (decide (a=b)))):=by
 refine PC.of_empty (AC.run (E_ok _) mix Tryz.func76 m76 rfl rfl rfl (zE rfl) ?_) (by simp [bndL,AV.bnd]) rfl
 by_cases hl:a.length=b.length
 ·have hd:decide ((a.length:Int)≠b.length)=false:=decide_eq_false (by omega)
  simp only [go_sem,zAa,hd,zB,zD,zC,reduceIte,reduceCtorEq,zA]
  refine zBk a.length (fun k => ∀ i (h1:i<k) (h2:i<a.length) (h3:i<b.length),a[i]=b[i]) (fun k=>[(0,stpsA a),(1,stpsA b),(5,.int .i64 (k:Nat))]) (fun _=>St.empty) (fun i hi=>absurd hi (yA _)) rfl rfl ?_
  intro k hk hP I hI
  by_cases hlt:k<a.length
  ·have h1:(k:Int)<a.length:=by omega
   have x1:0≤(k:Int)∧(k:Int)<a.length:=by omega
   have x2:0≤(k:Int)∧(k:Int)<b.length:=by omega
   have h4:IntKind.i64.wrap ((k:Int)+1)=(k+1:Nat):=wrap64 (by omega)
   have hkb:k<b.length:=by omega
   have k1:k * 2+2≤(stpsC a).length:=by rw [zFk];omega
   have k2:k * 2+2≤(stpsC b).length:=by rw [zFk];omega
   have g1:=stps_at a k hlt
   have g2:=stps_at b k hkb
   have nq:=neq_stp a[k] b[k]
   by_cases e:a[k]=b[k]
   ·have hd:decide (a[k]≠b[k])=false:=decide_eq_false fun hh=>hh e
    rw [hd] at nq
    simp only [go_sem,l76_0,zAa,h1,decide_true,x1,x2,k1,k2,g1,g2,zAe,and_self,nq,h4,zB,zD,zC,reduceIte,reduceCtorEq,zA]
    refine hI hlt fun i h1 h2 h3 => ?_
    by_cases ei:i=k
    ·subst ei;exact e
    ·exact hP i (by omega) h2 h3
   ·have hd:decide (a[k]≠b[k])=true:=decide_eq_true e
    rw [hd] at nq
    have hne:decide (a=b)=false:=decide_eq_false fun hh=>by subst hh;exact e rfl
    simp only [go_sem,l76_0,zAa,h1,decide_true,x1,x2,k1,k2,g1,g2,zAe,and_self,nq,Tryz.f76,zB,zD,zC,reduceIte,reduceCtorEq,zA]
    rw [hne]
  ·have h1:¬ (k:Int)<a.length:=by omega
   have he:decide (a=b)=true:=decide_eq_true (List.ext_getElem hl fun i h1 h2=>hP i (by omega) h1 h2)
   simp only [go_sem,l76_0,zAa,h1,decide_false,Tryz.f76,zB,zD,zC,reduceIte,reduceCtorEq,zA]
   rw [he]
 ·have hd:decide ((a.length:Int)≠b.length)=true:=decide_eq_true (by omega)
  have hne:decide (a=b)=false:=decide_eq_false fun hh=>hl (by rw [hh])
  simp only [go_sem,zAa,hd,Tryz.f76,zB,zD,zC,reduceIte,reduceCtorEq,zA]
  rw [hne]
set_option maxHeartbeats 1000000
theorem zEu (l:List Leg) (k:Nat) (h:k<l.length):((legsC l).drop (k * 3)).take 3=legC l[k]:=cat_at (f:=legC) (w:=3) (fun _=>rfl) l k h
theorem tries_at (l:List Try) (k:Nat) (h:k<l.length):((triesC l).drop (k * 3)).take 3=tryC l[k]:=cat_at (f:=tryC) (w:=3) (fun _=>rfl) l k h
theorem indexFuncL_pc (l:List Leg) (hl:okL l.length) (g:FuncId) (ng:Callable Tryz.prog g) (caps:List AV) (hc:bndL 0 0 caps=true) (p:Leg→Bool) (hg:∀ x∈l,PC Tryz.prog g (.agg (legC x) :: caps) (.pure (.bool (p x)))) :
  PC Tryz.prog 155 [.slice (legsC l) l.length .unk,.func (.func g) [] caps] (.pure (.int .i64 (idx p l))):=by
 refine PC.of_empty (AC.run (E_ok _) mix Tryz.func155 m155 rfl rfl rfl (zE rfl) ?_) (by simp [bndL,AV.bnd,hc]) rfl
 simp only [go_sem,zAa,zB,zD,zC,reduceIte,reduceCtorEq,zA]
 refine zBk l.length (fun k => ∀ i (hi:i<k) (hil:i<l.length),p l[i]=false) (fun k=>[(0,.slice (legsC l) l.length .unk),(1,.func (.func g) [] caps),(7,.int .i64 l.length),(8,.int .i64 k)]) (fun _=>St.empty) (fun i hi=>absurd hi (yA _)) rfl rfl ?_
 intro k hk hP I hI
 by_cases h:k<l.length
 ·have h':(k:Int)<l.length:=by omega
  have h2:0≤(k:Int)∧(k:Int)<l.length:=by omega
  have h3:k * 3+3≤(legsC l).length:=by rw [zDp];omega
  have h4:IntKind.i64.wrap ((k:Int)+1)=(k+1:Nat):=wrap64 (by omega)
  have h5:=zEu l k h
  simp only [go_sem,l155_0,h',decide_true,zB,zD,zC,reduceIte,reduceCtorEq,zA]
  simp only [go_sem,h2,zAe,and_self,h3,h5,zB,zD,zC,reduceIte,reduceCtorEq,zA]
  refine cp ng (hg _ (zX h)) (SubL.refl _) ?_
  simp only [go_sem,zB,zD,zC,reduceIte,reduceCtorEq,zA]
  refine sb_bool (fun hb => ?_) (fun hb => ?_)
  ·simp only [go_sem,Tryz.f155,zB,zD,zC,reduceIte,reduceCtorEq,zA]
   rw [idx_at h hb (fun i hi=>hP i hi (by omega))]
  ·simp only [go_sem,h4,zB,zD,zC,reduceIte,reduceCtorEq,zA]
   refine hI h fun i hi hil => ?_
   by_cases e:i=k
   ·subst e;exact hb
   ·exact hP i (by omega) hil
 ·have h':¬ (k:Int)<l.length:=by omega
  simp only [go_sem,l155_0,h',decide_false,Tryz.f155,zB,zD,zC,reduceIte,reduceCtorEq,zA]
  rw [zFb fun i hi=>hP i (by omega) hi]
theorem containsFuncL_pc (l:List Leg) (hl:okL l.length) (g:FuncId) (ng:Callable Tryz.prog g) (caps:List AV) (hc:bndL 0 0 caps=true) (p:Leg→Bool) (hg:∀ x∈l,PC Tryz.prog g (.agg (legC x) :: caps) (.pure (.bool (p x)))) :
  PC Tryz.prog 102 [.slice (legsC l) l.length .unk,.func (.func g) [] caps] (.pure (.bool (l.any p))):=by
 refine PC.of_empty (AC.run (E_ok _) mix Tryz.func102 m102 rfl rfl rfl (zE rfl) ?_) (by simp [bndL,AV.bnd,hc]) rfl
 simp only [go_sem,zB,zD,zC,reduceIte,reduceCtorEq,zA]
 refine cp n155 (indexFuncL_pc l hl g ng caps hc p hg) (SubL.refl _) ?_
 simp only [go_sem,Tryz.f102,zDi,zB,zD,zC,reduceIte,reduceCtorEq,zA]
theorem indexFuncT_pc (l:List Try) (hl:okL l.length) (g:FuncId) (ng:Callable Tryz.prog g) (caps:List AV) (hc:bndL 0 0 caps=true) (p:Try→Bool) (hg:∀ x∈l,PC Tryz.prog g (.agg (tryC x) :: caps) (.pure (.bool (p x)))) :
  PC Tryz.prog 157 [.slice (triesC l) l.length .unk,.func (.func g) [] caps] (.pure (.int .i64 (idx p l))):=by
 refine PC.of_empty (AC.run (E_ok _) mix Tryz.func157 m157 rfl rfl rfl (zE rfl) ?_) (by simp [bndL,AV.bnd,hc]) rfl
 simp only [go_sem,zAa,zB,zD,zC,reduceIte,reduceCtorEq,zA]
 refine zBk l.length (fun k => ∀ i (hi:i<k) (hil:i<l.length),p l[i]=false) (fun k=>[(0,.slice (triesC l) l.length .unk),(1,.func (.func g) [] caps),(7,.int .i64 l.length),(8,.int .i64 k)]) (fun _=>St.empty) (fun i hi=>absurd hi (yA _)) rfl rfl ?_
 intro k hk hP I hI
 by_cases h:k<l.length
 ·have h':(k:Int)<l.length:=by omega
  have h2:0≤(k:Int)∧(k:Int)<l.length:=by omega
  have h3:k * 3+3≤(triesC l).length:=by rw [triesC_len];omega
  have h4:IntKind.i64.wrap ((k:Int)+1)=(k+1:Nat):=wrap64 (by omega)
  have h5:=tries_at l k h
  simp only [go_sem,l157_0,h',decide_true,zB,zD,zC,reduceIte,reduceCtorEq,zA]
  simp only [go_sem,h2,zAe,and_self,h3,h5,zB,zD,zC,reduceIte,reduceCtorEq,zA]
  refine cp ng (hg _ (zX h)) (SubL.refl _) ?_
  simp only [go_sem,zB,zD,zC,reduceIte,reduceCtorEq,zA]
  refine sb_bool (fun hb => ?_) (fun hb => ?_)
  ·simp only [go_sem,Tryz.f157,zB,zD,zC,reduceIte,reduceCtorEq,zA]
   rw [idx_at h hb (fun i hi=>hP i hi (by omega))]
  ·simp only [go_sem,h4,zB,zD,zC,reduceIte,reduceCtorEq,zA]
   refine hI h fun i hi hil => ?_
   by_cases e:i=k
   ·subst e;exact hb
   ·exact hP i (by omega) hil
 ·have h':¬ (k:Int)<l.length:=by omega
  simp only [go_sem,l157_0,h',decide_false,Tryz.f157,zB,zD,zC,reduceIte,reduceCtorEq,zA]
  rw [zFb fun i hi=>hP i (by omega) hi]
theorem containsFuncT_pc (l:List Try) (hl:okL l.length) (g:FuncId) (ng:Callable Tryz.prog g) (caps:List AV) (hc:bndL 0 0 caps=true) (p:Try→Bool) (hg:∀ x∈l,PC Tryz.prog g (.agg (tryC x) :: caps) (.pure (.bool (p x)))) :
  PC Tryz.prog 113 [.slice (triesC l) l.length .unk,.func (.func g) [] caps] (.pure (.bool (l.any p))):=by
 refine PC.of_empty (AC.run (E_ok _) mix Tryz.func113 m113 rfl rfl rfl (zE rfl) ?_) (by simp [bndL,AV.bnd,hc]) rfl
 simp only [go_sem,zB,zD,zC,reduceIte,reduceCtorEq,zA]
 refine cp n157 (indexFuncT_pc l hl g ng caps hc p hg) (SubL.refl _) ?_
 simp only [go_sem,Tryz.f113,zDi,zB,zD,zC,reduceIte,reduceCtorEq,zA]
theorem indexFuncB_pc (l:List Bound) (hl:okL l.length) (g:FuncId) (ng:Callable Tryz.prog g) (caps:List AV) (hc:bndL 0 0 caps=true) (p:Bound→Bool) (hg:∀ x∈l,PC Tryz.prog g (.agg (bndC x) :: caps) (.pure (.bool (p x)))) :
  PC Tryz.prog 189 [.slice (bnds l) l.length .unk,.func (.func g) [] caps] (.pure (.int .i64 (idx p l))):=by
 refine PC.of_empty (AC.run (E_ok _) mix Tryz.func189 m189 rfl rfl rfl (zE rfl) ?_) (by simp [bndL,AV.bnd,hc]) rfl
 simp only [go_sem,zAa,zB,zD,zC,reduceIte,reduceCtorEq,zA]
 refine zBk l.length (fun k => ∀ i (hi:i<k) (hil:i<l.length),p l[i]=false) (fun k=>[(0,.slice (bnds l) l.length .unk),(1,.func (.func g) [] caps),(7,.int .i64 l.length),(8,.int .i64 k)]) (fun _=>St.empty) (fun i hi=>absurd hi (yA _)) rfl rfl ?_
 intro k hk hP I hI
 by_cases h:k<l.length
 ·have h':(k:Int)<l.length:=by omega
  have h2:0≤(k:Int)∧(k:Int)<l.length:=by omega
  have h3:k * 3+3≤(bnds l).length:=by rw [bnds_len];omega
  have h4:IntKind.i64.wrap ((k:Int)+1)=(k+1:Nat):=wrap64 (by omega)
  have h5:=bnds_at l k h
  simp only [go_sem,l189_0,h',decide_true,zB,zD,zC,reduceIte,reduceCtorEq,zA]
  simp only [go_sem,h2,zAe,and_self,h3,h5,zB,zD,zC,reduceIte,reduceCtorEq,zA]
  refine cp ng (hg _ (zX h)) (SubL.refl _) ?_
  simp only [go_sem,zB,zD,zC,reduceIte,reduceCtorEq,zA]
  refine sb_bool (fun hb => ?_) (fun hb => ?_)
  ·simp only [go_sem,Tryz.f189,zB,zD,zC,reduceIte,reduceCtorEq,zA]
   rw [idx_at h hb (fun i hi=>hP i hi (by omega))]
  ·simp only [go_sem,h4,zB,zD,zC,reduceIte,reduceCtorEq,zA]
   refine hI h fun i hi hil => ?_
   by_cases e:i=k
   ·subst e;exact hb
   ·exact hP i (by omega) hil
 ·have h':¬ (k:Int)<l.length:=by omega
  simp only [go_sem,l189_0,h',decide_false,Tryz.f189,zB,zD,zC,reduceIte,reduceCtorEq,zA]
  rw [zFb fun i hi=>hP i (by omega) hi]
theorem containsFuncB_pc (l:List Bound) (hl:okL l.length) (g:FuncId) (ng:Callable Tryz.prog g) (caps:List AV) (hc:bndL 0 0 caps=true) (p:Bound→Bool) (hg:∀ x∈l,PC Tryz.prog g (.agg (bndC x) :: caps) (.pure (.bool (p x)))) :
  PC Tryz.prog 176 [.slice (bnds l) l.length .unk,.func (.func g) [] caps] (.pure (.bool (l.any p))):=by
 refine PC.of_empty (AC.run (E_ok _) mix Tryz.func176 m176 rfl rfl rfl (zE rfl) ?_) (by simp [bndL,AV.bnd,hc]) rfl
 simp only [go_sem,zB,zD,zC,reduceIte,reduceCtorEq,zA]
 refine cp n189 (indexFuncB_pc l hl g ng caps hc p hg) (SubL.refl _) ?_
 simp only [go_sem,Tryz.f176,zDi,zB,zD,zC,reduceIte,reduceCtorEq,zA]
theorem rG_lnt {A C:List (Option Blk)} {n off:Nat} {V:Mat} (h:Sq n V) (ho:A.length=off) (t1 t2:Tail):Lnt (A ++ (heapP V ++ C)) (rG off n t1 t2) (rA V):=by
 have hrow:∀ {j:Nat},j<n → ∃ hl:j<V.length,V.getD j []=V[j]∧V[j].length=n:=fun {j} hj=>by
  have hl:j<V.length:=by rw [h.1];exact hj
  exact ⟨hl,by rw [zH,zF hl];rfl,h.2 j _ (zF hl)⟩
 refine .agg _ _ rfl fun i x y hx hy => ?_
 match i,hx,hy with
 | 0,hx,hy =>
  simp at hx hy;subst hx;subst hy
  show Lnt _ _ (.slice ((rM V).map sl) (rM V).length .unk)
  rw [rM_len h]
  refine .slice _ _ _ _ (by simp [rM,h.1]) fun j x y hx hy => ?_
  have hj:j<n:=by
   rcases zV j n with h' | h'
   ·exact h'
   ·rw [zO (by simpa using h')] at hx;cases hx
  obtain ⟨hl,hg,hlen⟩:=hrow hj
  rw [zBw hj] at hx
  simp only [xA] at hx
  subst hx
  unfold rM at hy
  rw [List.map_map,qC,zF hl] at hy
  simp only [zZ,xA] at hy
  subst hy
  have hc:=(zDv (C:=C) h hj ho).1
  rw [hg] at hc
  have:=Lnt.row (h:=A ++ (heapP V ++ C)) (off+2 * j) 0 n n 1 _ hc (ints_bnd _ _ _) (by simp [hlen]) (zN _)
  rw [List.drop_zero,yO (by simp [hlen])] at this
  show Lnt _ _ (.slice (ints (V[j].map mo)) (V[j].map mo).length .unk)
  rw [yJ,hlen];exact this
 | 1,hx,hy =>
  simp at hx hy;subst hx;subst hy
  show Lnt _ _ (.slice ((rJ V).map bl) (rJ V).length .unk)
  rw [rJ_len h]
  refine .slice _ _ _ _ (by simp [rJ,h.1]) fun j x y hx hy => ?_
  have hj:j<n:=by
   rcases zV j n with h' | h'
   ·exact h'
   ·rw [zO (by simpa using h')] at hx;cases hx
  obtain ⟨hl,hg,hlen⟩:=hrow hj
  rw [zCi hj] at hx
  simp only [xA] at hx
  subst hx
  unfold rJ at hy
  rw [List.map_map,qC,zF hl] at hy
  simp only [zZ,xA] at hy
  subst hy
  have hc:=(zDv (C:=C) h hj ho).2
  rw [hg] at hc
  have:=Lnt.row (h:=A ++ (heapP V ++ C)) (off+2 * j+1) 0 n n 1 _ hc (bools_bnd _ _ _) (by simp [hlen]) (zN _)
  rw [List.drop_zero,yO (by simp [hlen])] at this
  show Lnt _ _ (.slice (bools (V[j].map jo)) (V[j].map jo).length .unk)
  rw [yJ,hlen];exact this
 | i+2,hx,hy=>simp at hx
theorem carries1_pc (s:Survey) (x:Leg):PC Tryz.prog 103 [.agg (legC x),.eptr (surC s) 0] (.pure (.bool (!legB s x))):=by
 refine PC.of_empty (AC.run (E_ok _) mix Tryz.func103 m103 rfl rfl rfl (zE rfl) ?_) (by simp [bndL,AV.bnd]) rfl
 simp only [go_sem,boxA,zB,zD,zC,reduceIte,reduceCtorEq,zA]
 refine cp n104 (isLeg_pc s x) (SubL.refl _) ?_
 simp only [go_sem,zAj,Tryz.f103,zB,zD,zC,reduceIte,reduceCtorEq,zA]
def legsB (s:Survey) (l:List Leg):Bool:=inB l.length 1 6 && l.all (legB s)
theorem Legs_pc (s:Survey) (l:List Leg) (hl:okL l.length):PC Tryz.prog 36 [surA s,legsA l] (.pure (.bool (legsB s l))):=by
 refine PC.of_empty (AC.run (E_ok _) mix Tryz.func36 m36 rfl rfl rfl (zE rfl) ?_) (by simp [bndL,AV.bnd]) rfl
 simp only [go_sem,boxA,zB,zD,zC,reduceIte,reduceCtorEq,zA]
 refine zBk l.length (fun k => ∀ i (h1:i<k) (h2:i<l.length),legB s l[i]=true) (fun k=>[(1,legsA l),(2,.ref 0 0),(5,.int .i64 (k:Nat))]) (fun _=>⟨[some (.cells (surC s))],0,[]⟩) (fun i hi=>absurd hi (yA _)) rfl rfl ?_
 intro k hk hP I hI
 by_cases hlt:k<l.length
 ·have h1:(k:Int)<l.length:=by omega
  have x1:0≤(k:Int)∧(k:Int)<l.length:=by omega
  have h4:IntKind.i64.wrap ((k:Int)+1)=(k+1:Nat):=wrap64 (by omega)
  have k1:k * 3+3≤(legsC l).length:=by rw [zDp];omega
  have g1:=zEu l k hlt
  simp only [go_sem,l36_0,zAa,h1,decide_true,x1,k1,g1,zAe,and_self,zB,zD,zC,reduceIte,reduceCtorEq,zA]
  refine cp n40 (rLeg_pc s l[k]) (SubL.refl _) ?_
  cases e:legB s l[k]
  ·have hno:legsB s l=false:=by
    unfold legsB
    rw [show l.all (legB s)=false from List.all_eq_false.2 ⟨l[k],zX hlt,by rw [e];decide⟩,Bool.and_false]
   simp only [go_sem,zAj,qH,Tryz.f36,zB,zD,zC,reduceIte,reduceCtorEq,zA]
   rw [hno]
  ·simp only [go_sem,zAj,qD,h4,zB,zD,zC,reduceIte,reduceCtorEq,zA]
   refine hI hlt fun i h1 h2 => ?_
   by_cases ei:i=k
   ·subst ei;exact e
   ·exact hP i (by omega) h2
 ·have h1:¬ (k:Int)<l.length:=by omega
  have hall:l.all (legB s)=true:=List.all_eq_true.2 fun x hx=>by
   obtain ⟨i,hi,rfl⟩:=List.mem_iff_getElem.1 hx
   exact hP i (by omega) hi
  simp only [go_sem,l36_0,zAa,h1,decide_false,zB,zD,zC,reduceIte,reduceCtorEq,zA]
  refine cp n88 (rin_pc _ _ _) (SubL.refl _) ?_
  simp only [go_sem,Tryz.f36,zB,zD,zC,reduceIte,reduceCtorEq,zA]
  unfold legsB
  rw [hall,Bool.and_true]
end Go.Av.Lx
end
section
set_option maxHeartbeats 1000000
namespace Go.Av.Lx
open Go Go.Av Go.Av.Tb Go.Av.Fx Go.Proofs
open Go.Lv (Sight Survey Sw Sv SightOk Leg LegOk RangeOk Tun TunOk Try TryOk Stp fallW meetL meetH bestAt driveF wideI carryW carryB)
open Go.Fw (Sq ent Bd Mat)
def lbB (lo hi:Int) (x:Leg):List Bound:=[⟨x.to,x.frm,x.long * hi⟩,⟨x.frm,x.to,-(x.long * lo)⟩]
def lbs (lo hi:Int) (l:List Leg):List Bound:=l.flatMap (lbB lo hi)
theorem lbs_bd (lo hi:Int) (l:List Leg):(lbs lo hi l).map bd=Lv.legsP lo hi l:=by
 unfold lbs Lv.legsP
 rw [List.map_flatMap];rfl
theorem lbs_len (lo hi:Int) (l:List Leg):(lbs lo hi l).length=l.length * 2:=by
 unfold lbs
 induction l with
 | nil=>rfl
 | cons x l ih=>rw [yC,zY,ih,zW];simp [lbB];omega
theorem lbs_ok {s:Survey} (h:Sw s) {lo hi:Int} (hr:RangeOk lo hi) {l:List Leg} (hl:∀ x∈l,LegOk s.stations x):∀ b∈lbs lo hi l,BOk (Lv.num s) b:=fun b hb=>by
 obtain ⟨x,hx,hb⟩:=List.mem_flatMap.1 hb
 have ho:=hl x hx
 obtain ⟨s1,s2⟩:=Lv.leg_small ho hr
 have h1:=ho.frm;have h2:=ho.to
 have h3:=h.st
 have e:((Lv.num s:Nat):Int)=s.stations:=by show ((s.stations.toNat:Nat):Int)=_;omega
 simp only [lbB,yF,qT,or_false] at hb
 rcases hb with rfl | rfl
 ·exact ⟨by rw [e];exact h2,by rw [e];exact h1,by show -20000≤x.long * hi∧x.long * hi≤20000;omega⟩
 ·exact ⟨by rw [e];exact h1,by rw [e];exact h2,by show -20000 ≤ -(x.long * lo) ∧ -(x.long * lo)≤20000;omega⟩
def joinAll (V:Mat) (l:List Leg):Bool:=l.all fun x=>decide (ent V x.frm.toNat x.to.toNat<far)
def zCx (s:Survey) (l:List Leg) (lo hi:Int):AV:=
 if zAn s && (legsB s l && rangeB lo hi) then (match Lv.knownV s with
  | some V=>if joinAll V l=true then .tuple [.int .i64 (carryW s V l lo hi),.int .i64 0] else .tuple [.int .i64 0,.int .i64 5]
  | none=>.tuple [.int .i64 0,.int .i64 7])
 else .tuple [.int .i64 0,.int .i64 2]
theorem carriesA_bnd (s:Survey) (l:List Leg) (lo hi:Int):(zCx s l lo hi).bnd 0 0=true:=by
 unfold zCx
 split
 ·split
  ·split <;> rfl
  ·rfl
 ·rfl
def surelyB (V:Mat) (l:List Leg) (lo hi:Int):Bool:=l.all fun x=>decide (fallW V x lo hi=3)
theorem possK_carry {s:Survey} {l:List Leg} {lo hi:Int}:possK s (lbs lo hi l)=carryB s l lo hi:=by
 unfold possK kn carryB
 rw [lbs_bd]
theorem Carries_pc (s:Survey) (hl:okL s.sights.length) (l:List Leg) (hll:okL l.length) (lo hi:Int):PC Tryz.prog 35 [surA s,legsA l,.int .i64 lo,.int .i64 hi] (.pure (zCx s l lo hi)):=by
 refine PC.of_empty (AC.run (E_ok _) mix Tryz.func35 m35 rfl rfl rfl (zE rfl) ?_) (by simp [bndL,AV.bnd]) (carriesA_bnd _ _ _ _)
 unfold zCx legsB
 have hno:∀ b,b=false→askedA s b=.tuple [zeroK,.int .i64 2]:=fun b e=>by subst e;unfold askedA;rw [Bool.and_false];rfl
 simp only [go_sem,boxA,zAa,zB,zD,zC,reduceIte,reduceCtorEq,zA]
 refine cp n100 (in_pc _ _ _) (SubL.refl _) ?_
 rw [show (decide ((l.length:Int) ≥ 1) && decide ((l.length:Int)≤6))=inB l.length 1 6 from rfl]
 cases h1:inB l.length 1 6
 ·simp only [go_sem,qM,Bool.and_false,zB,zD,zC,reduceIte,reduceCtorEq,zA]
  refine cp n86 (zCl s hl false) (SubL.refl _) ?_
  rw [hno false rfl]
  simp only [go_sem,zAc,Tryz.f35,zB,zD,zC,reduceIte,reduceCtorEq,zA]
  simp
 simp only [go_sem,qY,zB,zD,zC,reduceIte,reduceCtorEq,zA]
 refine cp n101 (isRange_pc lo hi) (SubL.refl _) ?_
 cases h2:rangeB lo hi
 ·simp only [go_sem,qM,Bool.and_false,zB,zD,zC,reduceIte,reduceCtorEq,zA]
  refine cp n86 (zCl s hl false) (SubL.refl _) ?_
  rw [hno false rfl]
  simp only [go_sem,zAc,Tryz.f35,zB,zD,zC,reduceIte,reduceCtorEq,zA]
  simp
 have hC:=containsFuncL_pc l hll 103 n103 [.eptr (surC s) 0] (by simp [bndL,AV.bnd]) (fun x => !legB s x) (fun x _=>carries1_pc s x)
 simp only [go_sem,Bool.and_true,zB,zD,zC,reduceIte,reduceCtorEq,zA]
 refine cl n102 hC (LntL.cons (.same _ (by simp [AV.bnd])) (LntL.cons (Lnt.func1 (.ptr 0 0 _ rfl (by simp [bndL,AV.bnd]))) (LntL.nil _))) rfl ?_
 have hany:(!l.any fun x => !legB s x)=l.all (legB s):=by
  rw [← List.all_eq_not_any_not]
 simp only [go_sem,zAj,hany,zB,zD,zC,reduceIte,reduceCtorEq,zA]
 cases h3:l.all (legB s)
 ·refine cp n86 (zCl s hl false) (SubL.refl _) ?_
  rw [hno false rfl]
  simp only [go_sem,zAc,Tryz.f35,zB,zD,zC,reduceIte,reduceCtorEq,zA]
  simp
 refine cp n86 (zCl s hl true) (SubL.refl _) ?_
 unfold askedA
 cases hs:zAn s
 ·simp only [go_sem,qM,zAc,Tryz.f35,zB,zD,zC,reduceIte,reduceCtorEq,zA]
  all_goals rfl
 have hv:=zDm.1 hs
 cases hV:Lv.knownV s with
 | none =>
  simp only [go_sem,zJ,zAc,Tryz.f35,zB,zD,zC,reduceIte,reduceCtorEq,zA]
  all_goals rfl
 | some V =>
  have hr:=zEd.1 h2
  have hlen:l.length≤6:=by have:=inB_iff.1 h1;omega
  have hlg:∀ x∈l,LegOk s.stations x:=fun x hx=>(leg_iff hv.st).1 (List.all_eq_true.1 h3 x hx)
  simp only [zJ,if_true]
  simp only [go_sem,zJ,zAc,kvC,zAa,zB,zD,zC,reduceIte,reduceCtorEq,zA]
  refine zAt (fun m ts' S' => ∃ k W nt tk X,k≤l.length∧m=l.length - k∧ts'=[(2,.int .i64 lo),(3,.int .i64 hi),(4,.ref 0 0),(11,.ref 1 0),(13,W),(14,.bool (surelyB V (l.take k) lo hi)),(40,legsA l),(41,.int .i64 l.length),(42,.int .i64 (k:Nat))]∧S'=⟨[some (.cells (surC s)),some (.cells (kvC s (wS V)))] ++ X,nt,tk⟩∧MoreA (lbs lo hi (l.take k)) W ⟨[],nt,tk⟩ nt∧joinAll V (l.take k)=true) l.length ⟨0,.nilS,0,[],[],qN _,rfl,by simp [surelyB],rfl,.inl ⟨rfl,by simp [lbs]⟩,by simp [joinAll]⟩ ?_
  rintro m ts' S' ⟨k,W,nt,tk,X,hk,rfl,rfl,rfl,hM,hJ⟩
  by_cases hlt:k<l.length
  ·have k1:(k:Int)<l.length:=by omega
   have k2:0≤(k:Int)∧(k:Int)<l.length:=by omega
   have k3:k * 3+3≤(legsC l).length:=by rw [zDp];omega
   have k4:IntKind.i64.wrap ((k:Int)+1)=(k+1:Nat):=wrap64 (by omega)
   have k5:=zEu l k hlt
   have hx:=hlg _ (zX hlt)
   have tk1:l.take (k+1)=l.take k ++ [l[k]]:=qF hlt
   have hnj:¬ ent V l[k].frm.toNat l[k].to.toNat<far→joinAll V l=false:=fun h=>by
    unfold joinAll
    rw [List.all_eq_false]
    exact ⟨l[k],zX hlt,by rw [decide_eq_true_iff];exact h⟩
   have hll2:(lbs lo hi (l.take k)).length+(lbB lo hi l[k]).length≤1000000:=by rw [lbs_len,List.length_take];simp [lbB];omega
   have hlb:lbs lo hi (l.take (k+1))=lbs lo hi (l.take k) ++ lbB lo hi l[k]:=by rw [tk1];unfold lbs;rw [List.flatMap_append];simp
   have hsu:surelyB V (l.take (k+1)) lo hi=(surelyB V (l.take k) lo hi && decide (fallW V l[k] lo hi=3)):=by rw [tk1];unfold surelyB;rw [List.all_append];simp
   have hjo:joinAll V (l.take (k+1))=(joinAll V (l.take k) && decide (ent V l[k].frm.toNat l[k].to.toNat<far)):=by rw [tk1];unfold joinAll;rw [List.all_append];simp
   generalize l[k]=x at *
   have c1:∀ a b q,cellsAt (a :: b :: (X ++ [some (.cells q)])) (X.length+1+1)=some q:=fun a b q=>zAf (a :: b :: X) q
   have c2:∀ a b y B,setH (a :: b :: (X ++ [y])) (X.length+1+1) B=a :: b :: (X ++ [some B]):=fun a b y B=>zAs (a :: b :: X) y B
   obtain ⟨s1,s2⟩:=Lv.leg_small hx hr
   have hsm:=hx.long
   have o1:=hx.frm
   have o2:=hx.to
   obtain ⟨a,ha⟩:∃ a:Nat,x.frm=a:=⟨x.frm.toNat,by omega⟩
   obtain ⟨b,hb⟩:∃ b:Nat,x.to=b:=⟨x.to.toNat,by omega⟩
   have ea:a<Lv.num s:=by show a<s.stations.toNat;omega
   have eb:b<Lv.num s:=by show b<s.stations.toNat;omega
   have hjp:=joined_pc s (zBd (ds:=[]) hV) ea eb
   rw [← ha,← hb] at hjp
   have w1:IntKind.i64.wrap (x.long * hi)=x.long * hi:=wrap64 (by omega)
   have w2:IntKind.i64.wrap (0 - x.long) = -x.long:=by rw [wrap64 (by omega)];omega
   have w3:IntKind.i64.wrap (-x.long * lo) = -(x.long * lo):=by rw [Int.neg_mul];exact wrap64 (by omega)
   simp only [go_sem,l35_0,k1,decide_true,k2,k3,k5,zAe,and_self,c1,c2,zAd,AV.cells,AV.one,zK,zL,zJ,splice,zI,zG,zB,zD,zC,reduceIte,reduceCtorEq,zA]
   refine cp n105 hjp (SubL.refl _) ?_
   have hab:ent V a b=ent V x.frm.toNat x.to.toNat:=by rw [ha,hb];rfl
   rw [hab]
   by_cases hf:ent V x.frm.toNat x.to.toNat<far
   ·have hjn:=joinP hv.toSw hV o1 o2 hf
    rw [decide_eq_true hf] at hjo ⊢
    simp only [go_sem,zAj,qD,c1,zB,zD,zC,reduceIte,reduceCtorEq,zA]
    cases hsb:surelyB V (l.take k) lo hi
    ·simp only [go_sem,c1,w1,w2,w3,unA,zAa,zB,zD,zC,reduceIte,reduceCtorEq,zA]
     refine MoreA.app (S:=⟨some (.cells (surC s)) :: some (.cells (kvC s (wS V))) :: (X ++ [some (.cells (legC x))]),nt,tk⟩) (l:=lbB lo hi x) (N:=nt) (hM.mono (fun k hk _=>hk) (zN _)) (zN _) (by simp [lbB]) hll2 fun M3 tk3 hM3 => ?_
     simp only [go_sem,k4,zB,zD,zC,reduceIte,reduceCtorEq,zA]
     refine zAh (l.length - (k+1)) (by omega) ⟨k+1,M3,nt+1,tk3,_,hlt,rfl, ?_,rfl, ?_,by rw [hjo,hJ];rfl⟩
     ·rw [hsu,hsb];rfl
     ·rw [hlb];exact hM3.mono (fun k hk _=>hk) (zN _)
    ·simp only [go_sem,c1,w1,w2,w3,unA,zAa,zB,zD,zC,reduceIte,reduceCtorEq,zA]
     refine cp n106 (falls_pc s V x lo hi hx hr hjn) (SubL.refl _) ?_
     simp only [go_sem,c1,w1,w2,w3,unA,zAa,zB,zD,zC,reduceIte,reduceCtorEq,zA]
     refine MoreA.app (S:=⟨some (.cells (surC s)) :: some (.cells (kvC s (wS V))) :: (X ++ [some (.cells (legC x))]),nt,tk⟩) (l:=lbB lo hi x) (N:=nt) (hM.mono (fun k hk _=>hk) (zN _)) (zN _) (by simp [lbB]) hll2 fun M3 tk3 hM3 => ?_
     simp only [go_sem,k4,zB,zD,zC,reduceIte,reduceCtorEq,zA]
     refine zAh (l.length - (k+1)) (by omega) ⟨k+1,M3,nt+1,tk3,_,hlt,rfl, ?_,rfl, ?_,by rw [hjo,hJ];rfl⟩
     ·rw [hsu,hsb];rfl
     ·rw [hlb];exact hM3.mono (fun k hk _=>hk) (zN _)
   ·rw [decide_eq_false hf]
    simp only [go_sem,zAj,qH,Tryz.f35,zB,zD,zC,reduceIte,reduceCtorEq,zA]
    rw [hnj hf];rfl
  ·have k1:¬ (k:Int)<l.length:=by omega
   have ek:k=l.length:=by omega
   subst ek
   rw [yH] at hM hJ
   rw [hJ,if_pos rfl]
   have hcw:carryW s V l lo hi=if surelyB V l lo hi=true then 3 else if carryB s l lo hi=true then 2 else 1:=rfl
   rw [hcw]
   simp only [go_sem,l35_0,k1,decide_false,yH,zB,zD,zC,reduceIte,reduceCtorEq,zA]
   cases hsb:surelyB V l lo hi
   ·simp only [go_sem,zB,zD,zC,reduceIte,reduceCtorEq,zA]
    have hM1:W.cells=[W]∧W.one=true:=by
     rcases hM with ⟨rfl,_⟩ | ⟨k,rfl,_,_⟩
     ·exact ⟨rfl,rfl⟩
     ·exact ⟨rfl,rfl⟩
    refine zAw (E:=E _) n107 (possible_ac s hv.toSw (by have:=hv.many;omega) (lbs lo hi l) (by rw [lbs_len];omega) (lbs_ok hv.toSw hr hlg) W hM1 _ nt tk (hM.mono (fun k hk _=>hk) (zN _))) (fun v S' hR => ?_) (fun v S' hR=>by cases hR.1)
    obtain ⟨e,A,nt',tk',rfl,_⟩:=hR
    cases e
    rw [possK_carry]
    cases hcb:carryB s l lo hi
    ·simp only [go_sem,zAj,qH,Tryz.f35,zB,zD,zC,reduceIte,reduceCtorEq,zA]
     all_goals rfl
    ·simp only [go_sem,zAj,qD,Tryz.f35,zB,zD,zC,reduceIte,reduceCtorEq,zA]
     all_goals rfl
   ·simp only [go_sem,Tryz.f35,zB,zD,zC,reduceIte,reduceCtorEq,zA]
    all_goals rfl
end Go.Av.Lx
end
