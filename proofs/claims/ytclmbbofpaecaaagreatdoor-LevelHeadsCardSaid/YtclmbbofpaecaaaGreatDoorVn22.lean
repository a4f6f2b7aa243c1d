/- Part 22 of the proof. -/
import Derived.Test.YtclmbbofpaecaaaGreatDoorVn21
set_option linter.all false
set_option linter.unusedVariables false
set_option linter.unusedSimpArgs false
set_option linter.unusedSectionVars false
open Bool renaming and_self → zJ, not_true → zV, not_false → qF
open Int renaming toNat_natCast → qO, le_refl → qZ
open List renaming getElem?_eq_getElem → zF, getD_eq_getElem?_getD → zG, set_cons_succ → zH, set_cons_zero → zI, all_cons → zL, getElem?_eq_none → zN, all_nil → zO, mem_cons_self → zP, mem_cons_of_mem → zR, length_cons → zW, getElem?_append_right → zY, getElem_mem → qB, length_append → qC, getElem?_append_left → qJ, getElem?_map → qK, take_succ_eq_append_getElem → qM, getElem?_range → qR, map_append → qS, flatMap_cons → qW, not_mem_nil → yA, nil_append → yB, getElem?_replicate → yD, headD_cons → yF, tail_cons → yH, mem_cons → yM, range_succ → yN, take_length → yO, mem_singleton → yP
open Nat renaming reduceLeDiff → zA, reduceEqDiff → zB, reduceAdd → zC, reduceBEq → zD, le_of_ble_eq_true → zE, le_refl → zM, lt_or_ge → zU, zero_le → qG
open Option renaming map_some → zX
section
set_option maxHeartbeats 2000000
namespace Go.Av.Lx
open Go Go.Av Go.Av.Tb Go.Av.Fx Go.Proofs
open Go.Lv (Sight Survey Sw Sv SightOk Stp zBr walkRow rowStep rowOne walkN better zDg errF redF ErrQ)
open Go.Fw (Sq ent Bd Mat)
def walkW (s:Survey) (i:Nat):Mat:=(List.range (Lv.num s)).map (walkN s i)
theorem walkW_get (s:Survey) (i:Nat) {a:Nat} (ha:a<Lv.num s):(walkW s i).getD a []=walkN s i a:=by
 unfold walkW
 rw [zG,qK,qR ha];rfl
theorem walkW_sq {s:Survey} (h:Sw s) {i:Nat} (hi:i≤100):Sq (Lv.num s) (walkW s i):=by
 refine ⟨by simp [walkW],fun a r hr => ?_⟩
 unfold walkW at hr
 rw [qK] at hr
 rcases zU a (Lv.num s) with ha | ha
 ·rw [qR ha] at hr
  cases hr
  exact (Lv.walkN_row h ha i hi).len
 ·rw [zN (by simpa using ha)] at hr;cases hr
theorem walk_val {s:Survey} (h:Sw s) {i a v:Nat} (hi:i≤100) (ha:a<Lv.num s) (hv:v<Lv.num s):-far≤(walkN s i a).getD v 0∧((walkN s i a).getD v 0 > -far → -1000 * (i:Int)≤(walkN s i a).getD v 0∧(walkN s i a).getD v 0≤1000 * i):=by
 have hr:=Lv.walkN_row h ha i hi
 refine ⟨hr.low v hv,fun g => ?_⟩
 obtain ⟨l,hl,e⟩:=hr.met v hv g
 have:=Lv.rise_bd h hl.ok
 rw [hl.len,e] at this
 exact this
theorem walkW_m {s:Survey} (h:Sw s) {i:Nat} (hi:i≤100):WalkM (Lv.num s) (walkW s i):=by
 have key:∀ a v,a<Lv.num s→v<Lv.num s → -far≤ent (walkW s i) a v∧ent (walkW s i) a v≤1000000:=fun a v ha hv=>by
  have:=walk_val h hi ha hv
  show -far≤((walkW s i).getD a []).getD v 0∧((walkW s i).getD a []).getD v 0≤1000000
  rw [walkW_get s i ha]
  have hf:far=1099511627776:=rfl
  by_cases g:(walkN s i a).getD v 0 > -far
  ·have:=this.2 g;omega
  ·omega
 exact ⟨walkW_sq h hi,fun a v ha hv=>(key a v ha hv).1,fun a v ha hv=>(key a v ha hv).2⟩
theorem walkW_succ (s:Survey) (i:Nat):((List.range (Lv.num s)).map fun a=>walkRow s ((walkW s i).getD a []))=walkW s (i+1):=by
 show _=(List.range (Lv.num s)).map (walkN s (i+1))
 refine List.map_congr_left fun a ha => ?_
 rw [walkW_get s i (List.mem_range.1 ha)];rfl
abbrev frA (o:Int × Int):AV:=.agg [.int .i64 o.1,.int .i64 o.2]
theorem mul_bd {r b:Int} (hr:-8000≤r∧r≤8000) (hb:1≤b∧b≤8):-64000≤r * b∧r * b≤64000:=by
 have:b=1∨b=2∨b=3∨b=4∨b=5∨b=6∨b=7∨b=8:=by omega
 rcases this with rfl | rfl | rfl | rfl | rfl | rfl | rfl | rfl <;> omega
@[go_sem] theorem bd_fr (a b:Int):buildA T 49 [(0,.int .i64 a),(1,.int .i64 b)]=some (.agg [.int .i64 a,.int .i64 b]):=rfl
@[go_sem] theorem bd_fr1 (b:Int):buildA T 49 [(1,.int .i64 b)]=some (.agg [.int .i64 0,.int .i64 b]):=rfl
@[go_sem] theorem bd_fr0:buildA T 49 []=some (.agg [.int .i64 0,.int .i64 0]):=rfl
theorem least_err_pc (s:Survey) (h:Sw s) (hl:s.sights.length≤100):PC Tryz.prog 90 [surA s] (.pure (frA (errF s))):=by
 refine PC.of_empty (AC.run (E_ok _) mix Tryz.func90 m90 rfl rfl rfl (zE rfl) ?_) (by simp [bndL,AV.bnd]) rfl
 obtain ⟨n,hn⟩:∃ n,n=Lv.num s:=⟨_,rfl⟩
 have hst:s.stations=(n:Int):=by have:=h.st;rw [hn];show _=((s.stations.toNat:Nat):Int);omega
 have hn2:2≤n∧n≤8:=by have:=h.st;omega
 obtain ⟨oL,hoL⟩:∃ oL:Nat→Int × Int,oL=fun i=>(List.range i).foldl (fun o i=>zDg s i o) (0,1):=⟨_,rfl⟩
 have oL0:oL 0=(0,1):=by rw [hoL];rfl
 have oLs:∀ i,oL (i+1)=zDg s i (oL i):=fun i=>by rw [hoL];exact Fw.fold_succ _ _ _
 have oLn:oL n=Lv.leastF s:=by rw [hoL,hn];rfl
 clear hoL
 have start:ErrQ s (fun _ _=>False) (oL 0):=by
  rw [oL0]
  exact ⟨⟨by show (0:Int)<1;decide,by show (1:Int)≤((Lv.num s:Nat):Int);omega⟩,⟨qZ _,by show (0:Int)≤1000 * 1;decide⟩,fun l a _ _ _ _ _ hf=>hf.elim,.inl rfl⟩
 simp only [go_sem,boxA,zAd,AV.cells,AV.one,zL,zO,zJ,splice,zI,zH,and_self,zB,zD,zC,reduceIte,reduceCtorEq,zA]
 refine cp n146 (still_pc s h) (SubL.refl _) ?_
 simp only [go_sem,hst,zB,zD,zC,reduceIte,reduceCtorEq,zA]
 rw [show (List.range (Lv.num s)).map (zBr (Lv.num s))=walkW s 0 from rfl]
 refine zBi n (fun i => ∃ M,ErrQ s M (oL i)) (fun i=>[(1,.ref 0 0),(2,.ref 1 0),(3,.ref 2 0),(4,wS (walkW s i)),(13,.int .i64 n),(14,.int .i64 (i:Nat))]) (fun i=>⟨[some (.cells [.int .i64 n,.slice (sgts s.sights) s.sights.length .unk]),some (.cells [.int .i64 0,.int .i64 0]),some (.cells [.int .i64 (oL i).1,.int .i64 (oL i).2])],0,[]⟩) ⟨_,start⟩ rfl (by rw [oL0]) ?_
 rintro i hi ⟨M,hM⟩ I hI
 by_cases hlt:i<n
 rotate_left
 ·have h1:¬ (i:Int)<n:=by omega
  have e:i=n:=by omega
  subst e
  rw [oLn] at hM ⊢
  unfold errF redF
  have d1:=hM.den
  have d2:=hM.num0
  generalize Lv.leastF s=o at *
  obtain ⟨p,q⟩:=o
  simp only at d1 d2
  obtain ⟨p,rfl⟩:∃ p':Nat,p=p':=⟨p.toNat,by omega⟩
  obtain ⟨q,rfl⟩:∃ q':Nat,q=q':=⟨q.toNat,by omega⟩
  simp only [qO]
  have hgp:0<Nat.gcd p q:=Nat.gcd_pos_of_pos_right _ (by omega)
  have q1:=quo_nat (x:=p) hgp (by omega)
  have q2:=quo_nat (x:=q) hgp (by omega)
  simp only [go_sem,l90_0,h1,decide_false,zB,zD,zC,reduceIte,reduceCtorEq,zA]
  refine cp n148 (divisor_pc p q) (SubL.refl _) ?_
  simp only [go_sem,q1,q2,zAd,AV.cells,AV.one,zL,zO,zJ,splice,zI,zH,and_self,Tryz.f90,zB,zD,zC,reduceIte,reduceCtorEq,zA]
  all_goals rfl
 have h1:(i:Int)<n:=by omega
 have h4:IntKind.i64.wrap ((i:Int)+1)=(i+1:Nat):=wrap64 (by omega)
 have hw:=walks_pc s h hl (walkW_m h (i:=i) (by omega))
 rw [walkW_succ] at hw
 simp only [surA,surC,hst] at hw
 have hI:=hI hlt
 rw [oLs] at hI
 simp only [go_sem,l90_0,h1,decide_true,zB,zD,zC,reduceIte,reduceCtorEq,zA]
 refine cp n147 hw (SubL.refl _) ?_
 simp only [go_sem,zB,zD,zC,reduceIte,reduceCtorEq,zA]
 obtain ⟨oI,hoI⟩:∃ oI:Nat→Int × Int,oI=fun k=>(List.range k).foldl (fun o a=>better o ((walkN s (i+1) a).getD a 0) (i+1:Nat)) (oL i):=⟨_,rfl⟩
 have oI0:oI 0=oL i:=by rw [hoI];rfl
 have oIs:∀ k,oI (k+1)=better (oI k) ((walkN s (i+1) k).getD k 0) (i+1:Nat):=fun k=>by rw [hoI];exact Fw.fold_succ _ _ _
 have oIn:oI n=zDg s i (oL i):=by rw [hoI,hn];rfl
 clear hoI
 refine zBi n (fun k => ∃ M,ErrQ s M (oI k)) (fun k=>[(1,.ref 0 0),(2,.ref 1 0),(3,.ref 2 0),(4,wS (walkW s (i+1))),(13,.int .i64 n),(14,.int .i64 (i:Nat)),(5,.int .i64 (i:Nat)),(21,.int .i64 n),(22,.int .i64 (k:Nat))]) (fun k=>⟨[some (.cells [.int .i64 n,.slice (sgts s.sights) s.sights.length .unk]),some (.cells [.int .i64 0,.int .i64 0]),some (.cells [.int .i64 (oI k).1,.int .i64 (oI k).2])],0,[]⟩) ⟨M,by rw [oI0];exact hM⟩ rfl (by rw [oI0]) ?_
 rintro k hk ⟨M2,hM2⟩ I2 hI2
 by_cases hlt2:k<n
 rotate_left
 ·have k1:¬ (k:Int)<n:=by omega
  have e:k=n:=by omega
  subst e
  rw [oIn] at hM2 ⊢
  simp only [go_sem,l90_1,k1,decide_false,h4,zB,zD,zC,reduceIte,reduceCtorEq,zA]
  exact hI ⟨M2,hM2⟩
 have k1:(k:Int)<n:=by omega
 have k4:IntKind.i64.wrap ((k:Int)+1)=(k+1:Nat):=wrap64 (by omega)
 have hsq:=walkW_sq h (i:=i+1) (by omega)
 rw [← hn] at hsq
 have hwk:=zDl hsq hlt2
 have hrl:=hsq.getD hlt2
 rw [walkW_get s (i+1) (by omega)] at hwk hrl
 obtain ⟨v1,v2⟩:=walk_val h (i:=i+1) (a:=k) (v:=k) (by omega) (by omega) (by omega)
 have hb:=Lv.better_ok h hM2 (i:=i) (a:=k) (by omega) (by omega)
 have hI2:=hI2 hlt2 ⟨_,by rw [oIs];exact hb⟩
 rw [oIs] at hI2
 have gk:(walkN s (i+1) k)[k]? = some ((walkN s (i+1) k).getD k 0):=by rw [zG,zF (by omega)];rfl
 have xa:0≤(k:Int)∧(k:Int)<((walkW s (i+1)).length:Int):=by have:=hsq.1;omega
 have xb:0≤(k:Int)∧(k:Int)<((walkN s (i+1) k).length:Int):=by omega
 have d1:=hM2.den
 have d2:=hM2.num0
 clear hb hM2 hM start
 generalize oI k=o at *
 generalize (walkN s (i+1) k).getD k 0=v at *
 obtain ⟨p,q⟩:=o
 simp only at d1 d2
 simp only [go_sem,l90_1,k1,decide_true,xa,hwk,xb,ints_get,gk,zX,zAi,and_self,zB,zD,zC,reduceIte,reduceCtorEq,zA]
 by_cases g1:v > -far
 ·have g1':v > -1099511627776:=g1
  have v3:=v2 g1
  have m1:=mul_bd (r:=v) (b:=q) (by omega) (by omega)
  have m2:=mul_bd (r:=p) (b:=(i+1:Nat)) (by omega) (by omega)
  have w1:IntKind.i64.wrap (v * q)=v * q:=wrap64 (by omega)
  have w2:IntKind.i64.wrap (p * ((i+1:Nat):Int))=p * ((i+1:Nat):Int):=wrap64 (by omega)
  by_cases g2:v * q > p * ((i+1:Nat):Int)
  ·have hbt:better (p,q) v (i+1:Nat)=(v,((i+1:Nat):Int)):=if_pos ⟨g1,g2⟩
   rw [hbt] at hI2
   simp only [go_sem,g1',g2,decide_true,h4,w1,w2,zAd,AV.cells,AV.one,zL,zO,zJ,splice,zI,zH,and_self,k4,zB,zD,zC,reduceIte,reduceCtorEq,zA]
   exact hI2
  ·have hbt:better (p,q) v (i+1:Nat)=(p,q):=if_neg fun hh=>g2 hh.2
   rw [hbt] at hI2
   simp only [go_sem,g1',g2,decide_true,decide_false,h4,w1,w2,k4,zB,zD,zC,reduceIte,reduceCtorEq,zA]
   exact hI2
 ·have g1':¬ v > -1099511627776:=g1
  have hbt:better (p,q) v (i+1:Nat)=(p,q):=if_neg fun hh=>g1 hh.1
  rw [hbt] at hI2
  simp only [go_sem,g1',decide_false,h4,k4,zB,zD,zC,reduceIte,reduceCtorEq,zA]
  exact hI2
end Go.Av.Lx
end
section
set_option maxHeartbeats 2000000
namespace Go.Av.Lx
open Go Go.Av Go.Av.Tb Go.Av.Fx Go.Proofs
open Go.Lv (Sight Survey Sw Sv SightOk Stp errF evenB RedP)
open Go.Fw (Sq ent Bd Mat)
theorem kA_bnd (s:Survey) (V:Mat):(kA s V).bnd 0 0=true:=by simp [AV.bnd,bndL]
theorem known_even_pc (s:Survey) (h:Sw s) (he:s.sights=[]) (ds:List Bound) (hd:ds.length≤1000) (hok:∀ x∈ds,BOk (Lv.num s) x) {V:Mat} (hV:kn s ds=some V) (hsq:Sq (Lv.num s) V):PC Tryz.prog 94 [surA s,.slice (bnds ds) ds.length .unk] (.pure (kA s V)):=by
 refine PC.of_frz (known_run s h (by rw [he];simp) ds hd hok _ [] 0 [] (.inr ⟨he,rfl⟩) _ ?_ ?_) (by simp [bndL,AV.bnd]) (kA_bnd s V)
 ·intro h0
  rw [kn_eq h,hV] at h0;cases h0
 ·intro V' hV' A C t nt tk h3 hN
  rw [kn_eq h,hV] at hV'
  cases hV'
  refine ⟨_,rfl, ?_⟩
  rw [yB]
  exact kv_frz hsq h3 t
def evS (s:Survey):Survey:=⟨s.stations,[]⟩
theorem evS_sw {s:Survey} (h:Sw s):Sw (evS s):=⟨h.st,fun x hx=>by cases hx⟩
theorem least1_ac (s:Survey) (h:Sw s) (ds:List Bound) (hd:ds.length≤1000) (hok:∀ x∈ds,BOk (Lv.num s) x) {V:Mat} (hV:kn (evS s) ds=some V) (hsq:Sq (Lv.num s) V) (M:AV) (H:List (Option Blk)) (N:Nat) (toks:List Nat) (hM:Sub M (.slice (bnds ds) ds.length .unk))
  (i j k l:Nat) (hi:cellsAt H i=some [.int .i64 s.stations,.nilS]) (hj:cellsAt H j=some [M]) (hk:cellsAt H k=some (surC s)) (hl:cellsAt H l=some [.nilS]) (hkl:k≠l) :
  AC Tryz.prog 93 [.ref i 0,.ref j 0,.ref k 0,.ref l 0] ⟨H,N,toks⟩ fun e S'=>e=.ret (.tuple []) ∧ ∃ Hh W nt tk,S'=⟨Hh,nt,tk⟩∧cellsAt Hh l=some [W]∧(∀ q,q<H.length→q≠l→cellsAt Hh q=cellsAt H q)∧Own (ints ((List.range (Lv.num s)).map (lowAt V (Lv.num s)))) (Lv.num s) W nt tk:=by
 refine AC.run (Es_ok _ _) mix Tryz.func93 m93 rfl rfl rfl (zE rfl) ?_
 have hst:s.stations=(Lv.num s:Int):=by have:=h.st;show _=((s.stations.toNat:Nat):Int);omega
 have hn2:2≤Lv.num s∧Lv.num s≤8:=by have:=h.st;show 2≤s.stations.toNat∧s.stations.toNat≤8;omega
 have hkp:=known_even_pc (evS s) (evS_sw h) rfl ds hd hok hV hsq
 have cax:∀ X,cellsAt (H ++ X) k=some (surC s):=fun X=>zAn hk X
 have c1:=zAf H
 have c2:=fun x B=>zAs H x B
 simp only [go_sem,hi,hj,zB,zD,zC,reduceIte,reduceCtorEq,zA]
 refine zCa (E:=Es _ _) n94 hkp (SubL.cons (Sub.agg (SubL.cons (Sub.refl _) (SubL.cons Sub.nil (SubL.refl [])))) (SubL.cons hM (SubL.refl []))) ?_
 simp only [go_sem,c1,c2,zAd,AV.cells,AV.one,zL,zO,zJ,splice,zI,zH,and_self,cax,zB,zD,zC,reduceIte,reduceCtorEq,zA]
 obtain ⟨n,hn⟩:∃ n,Lv.num s=n:=⟨_,rfl⟩
 rw [hn] at hn2 hst hsq ⊢
 have hll:=zDu hl
 refine zAu (fun m ts' S' => ∃ a W nt tk Hh,a≤n∧m=n - a∧ts'=[(3,.ref l 0),(4,.ref H.length 0),(11,.int .i64 s.stations),(12,.int .i64 (a:Nat))]∧S'=⟨Hh,nt,tk⟩∧cellsAt Hh l=some [W]∧cellsAt Hh H.length=some (kvC (evS s) (wS V))∧(∀ q,q<H.length→q≠l→cellsAt Hh q=cellsAt H q)∧Own (ints ((List.range a).map (lowAt V n))) a W nt tk) n ⟨0,.nilS,N,toks,_,qG _,rfl,rfl,rfl,zAn hl _,c1 _,fun q hq _ => ?_,Own.nil _ _⟩ ?_
 ·unfold cellsAt;rw [qJ hq]
 rintro m ts' S' ⟨a,W,nt,tk,Hh,ha,rfl,rfl,rfl,d1,d2,d3,ho⟩
 by_cases hlt:a<n
 ·have h1:(a:Int)<s.stations:=by omega
  have h4:IntKind.i64.wrap ((a:Int)+1)=(a+1:Nat):=wrap64 (by omega)
  have hb:=baseG_lt V hlt
  have hx:=zDu d1
  have hs:∀ B,setH Hh l (.cells B)=setH Hh l (.cells B):=fun _=>rfl
  simp only [go_sem,l93_0,h1,decide_true,d2,zB,zD,zC,reduceIte,reduceCtorEq,zA]
  refine zCa (E:=Es _ _) n87 (base_pc (evS s) hst (by omega) hsq hlt) (SubL.refl _) ?_
  simp only [go_sem,d1,d2,zB,zD,zC,reduceIte,reduceCtorEq,zA]
  refine zBo (E:=Es _ _) n95 (least_pc (evS s) hsq hb hlt) (SubL.refl _) ?_
  simp only [go_sem,d1,zAa,zB,zD,zC,reduceIte,reduceCtorEq,zA]
  refine zEa (lx:=[.int .i64 (IntKind.i64.wrap (0 - ent V a (baseG V n a)))]) rowInts ho (by simp) rfl (by decide) rfl (by omega) fun W' tk' g => ?_
  obtain ⟨q1,q2⟩:=g.own.cells
  simp only [go_sem,d1,q1,q2,zAd,zL,zO,zJ,splice,and_self,zI,zH,h4,zB,zD,zC,reduceIte,reduceCtorEq,zA]
  refine zAj (n - (a+1)) (by omega) ⟨a+1,W',nt+1,tk',_,hlt,rfl,rfl,rfl,cells_self hx, ?_,fun q hq hne => ?_, ?_⟩
  ·rw [zBw hx (by omega)];exact d2
  ·rw [zBw hx hne];exact d3 q hq hne
  ·have:=g.own
   rw [show [AV.int .i64 (IntKind.i64.wrap (0 - ent V a (baseG V n a)))]=ints [lowAt V n a] from rfl,ints_app] at this
   rw [yN,qS]
   exact this
 ·have h1:¬ (a:Int)<s.stations:=by omega
  have e:a=n:=by omega
  subst e
  simp only [go_sem,l93_0,h1,decide_false,Tryz.f93,zB,zD,zC,reduceIte,reduceCtorEq,zA]
  exact ⟨rfl,Hh,W,nt,tk,rfl,d1,d3,ho⟩
def leB (d o:Int) (x:Sight):List Bound:=sB ⟨x.frm,x.to,x.rise * d,o⟩
theorem leB_bd {n:Int} {x:Sight} (hx:SightOk n x) {d o:Int} (hd:1≤d∧d≤8) (ho:0≤o∧o≤8000):(leB d o x).map bd=Lv.sightD d o x:=by
 have:=rise_by hx.rise hd
 unfold leB sB Lv.sightD
 simp only [List.map_cons,List.map_nil,bd]
 rw [wrap64 (by omega),wrap64 (by omega)]
def lesB (s:Survey) (d o:Int) (l:List Sight):List Bound:=l.flatMap (leB d o)
theorem lesB_bd {s:Survey} (h:Sw s) {d o:Int} (hd:1≤d∧d≤8) (ho:0≤o∧o≤8000):(lesB s d o s.sights).map bd=evenB s d o:=by
 unfold lesB evenB
 rw [List.map_flatMap]
 have:∀ l:List Sight,(∀ x∈l,SightOk s.stations x)→l.flatMap (fun a=>(leB d o a).map bd)=l.flatMap (Lv.sightD d o):=fun l hl=>by
  induction l with
  | nil=>rfl
  | cons x l ih=>rw [qW,qW,leB_bd (hl x zP) hd ho,ih fun y hy=>hl y (zR _ hy)]
 exact this _ h.sights
theorem lesB_len (s:Survey) (d o:Int) (l:List Sight):(lesB s d o l).length=l.length * 2:=by
 unfold lesB
 induction l with
 | nil=>rfl
 | cons x l ih=>rw [qW,qC,ih,zW];simp [leB,sB];omega
theorem lesB_ok {s:Survey} (h:Sw s) {d o:Int} (hd:1≤d∧d≤8) (ho:0≤o∧o≤8000):∀ b∈lesB s d o s.sights,BOk (Lv.num s) b:=fun b hb=>by
 obtain ⟨x,hx,hb⟩:=List.mem_flatMap.1 hb
 have hx:=h.sights x hx
 have a:=rise_by hx.rise hd
 have h1:=hx.frm;have h2:=hx.to
 have h3:=h.st
 have e:((Lv.num s:Nat):Int)=s.stations:=by show ((s.stations.toNat:Nat):Int)=_;omega
 simp only [leB,sB,yM,yA,or_false] at hb
 rw [wrap64 (by omega),wrap64 (by omega)] at hb
 rcases hb with rfl | rfl
 ·exact ⟨by rw [e];exact h1,by rw [e];exact h2,by show -20000≤x.rise * d+o∧x.rise * d+o≤20000;omega⟩
 ·exact ⟨by rw [e];exact h2,by rw [e];exact h1,by show -20000≤o - x.rise * d∧o - x.rise * d≤20000;omega⟩
def evenV (s:Survey):Mat:=(Lv.clo (Lv.num s) (evenB s (errF s).2 (errF s).1)).getD []
theorem evenV_eq {s:Survey} (h:Sw s):Lv.clo (Lv.num s) (evenB s (errF s).2 (errF s).1)=some (evenV s):=by
 obtain ⟨V,hV⟩:=Lv.even_some h (Lv.err_ok h)
 unfold evenV
 rw [hV];rfl
def evenL (s:Survey):List Int:=(List.range (Lv.num s)).map (lowAt (evenV s) (Lv.num s))
def leastA (s:Survey):AV:=if zAp s=true then .tuple [frA (errF s),sl (evenL s),.int .i64 0] else .tuple [frA (0,0),.nilS,.int .i64 2]
theorem leastA_bnd (s:Survey):(leastA s).bnd 0 0=true:=by
 unfold leastA
 split
 ·simp [AV.bnd,bndL]
 ·rfl
def lone (i:Nat) (l:List AV):St:=⟨List.replicate i none ++ [some (.cells l)],0,[]⟩
theorem lone_at (i:Nat) (l:List AV):cellsAt (lone i l).heap i=some l:=by
 unfold cellsAt lone
 have:(List.replicate i (none:Option Blk) ++ [some (Blk.cells l)])[i]? = some (some (.cells l)):=by
  rw [zY (by simp)];simp
 show (match (List.replicate i (none:Option Blk) ++ [some (Blk.cells l)])[i]? with | some (some (.cells l))=>some l | _=>none)=_
 rw [this]
theorem lone_sees {i:Nat} {l:List AV} {H:List (Option Blk)} (h:cellsAt H i=some l):∀ (p:Nat) (B:Blk),(lone i l).heap[p]? = some (some B)→p∈[i]∧H[p]? = some (some B):=by
 intro p B e
 unfold lone at e
 simp only [List.getElem?_append,List.length_replicate,yD] at e
 split at e
 ·cases e
 ·rename_i hp
  by_cases h0:p=i
  ·subst h0
   simp at e
   subst e
   refine ⟨by simp, ?_⟩
   unfold cellsAt at h
   revert h
   split
   ·intro h;cases h;assumption
   ·intro h;cases h
  ·rw [zN (by simp;omega)] at e
   cases e
theorem Least_pc (s:Survey) (hl:okL s.sights.length):PC Tryz.prog 32 [surA s] (.pure (leastA s)):=by
 refine PC.of_frz (AC.run (E_ok _) mix Tryz.func32 m32 rfl rfl rfl (zE rfl) ?_) (by simp [bndL,AV.bnd]) (leastA_bnd s)
 unfold leastA
 simp only [go_sem,boxA,zB,zD,zC,reduceIte,reduceCtorEq,zA]
 refine cp n89 (zBn s hl) (SubL.refl _) ?_
 cases hs:zAp s
 ·simp only [go_sem,zAg,qF,zAd,AV.cells,AV.one,zL,zO,zJ,splice,zI,zH,and_self,Tryz.f32,zB,zD,zC,reduceIte,reduceCtorEq,zA]
  exact ⟨_,rfl,.same _⟩
 have hv:=zCk.1 hs
 have h:=hv.toSw
 have hr:=Lv.err_ok h
 obtain ⟨b1,b2,b3⟩:=Lv.err_bd h hr
 have hbd0:buildA T 24 [(0,.int .i64 s.stations)]=some (.agg [.int .i64 s.stations,.nilS]):=rfl
 simp only [go_sem,zAg,zV,zB,zD,zC,reduceIte,reduceCtorEq,zA]
 refine cp n90 (least_err_pc s h (by have:=hv.many;omega)) (SubL.refl _) ?_
 obtain ⟨o,ho⟩:∃ o,errF s=o:=⟨_,rfl⟩
 rw [ho] at b1 b2 b3 ⊢
 obtain ⟨p,q⟩:=o
 simp only at b1 b2 b3
 simp only [go_sem,hbd0,zAd,AV.cells,AV.one,zL,zO,zJ,splice,zI,zH,and_self,zAa,zB,zD,zC,reduceIte,reduceCtorEq,zA]
 refine zAu (fun m ts' S' => ∃ k M nt tk X,k≤s.sights.length∧m=s.sights.length - k∧ts'=[(1,.ref 0 0),(2,.ref 1 0),(5,.ref 2 0),(6,.ref 3 0),(7,.ref 4 0),(22,.slice (sgts s.sights) s.sights.length .unk),(23,.int .i64 s.sights.length),(24,.int .i64 (k:Nat))]∧S'=⟨[some (.cells (surC s)),some (.cells [.int .i64 0,.int .i64 0]),some (.cells [.int .i64 p,.int .i64 q]),some (.cells [.int .i64 s.stations,.nilS]),some (.cells [M])] ++ X,nt,tk⟩∧MoreA (lesB s q p (s.sights.take k)) M ⟨[],nt,tk⟩ nt) s.sights.length ⟨0,.nilS,0,[],[],qG _,rfl,rfl,rfl,.inl ⟨rfl,by simp [lesB]⟩⟩ ?_
 rintro m ts' S' ⟨k,M,nt,tk,X,hk,rfl,rfl,rfl,hM⟩
 have hM1:M.cells=[M]∧M.one=true:=by
  rcases hM with ⟨rfl,_⟩ | ⟨k,rfl,_,_⟩
  ·exact ⟨rfl,rfl⟩
  ·exact ⟨rfl,rfl⟩
 have c1:∀ a b c d e l,cellsAt (a :: b :: c :: d :: e :: (X ++ [some (.cells l)])) (X.length+1+1+1+1+1)=some l:=fun a b c d e l=>zAf (a :: b :: c :: d :: e :: X) l
 have c2:∀ a b c d e x B,setH (a :: b :: c :: d :: e :: (X ++ [x])) (X.length+1+1+1+1+1) B=a :: b :: c :: d :: e :: (X ++ [some B]):=fun a b c d e x B=>zAs (a :: b :: c :: d :: e :: X) x B
 by_cases hlt:k<s.sights.length
 ·have k1:(k:Int)<s.sights.length:=by omega
  have k2:0≤(k:Int)∧(k:Int)<s.sights.length:=by omega
  have k3:k * 4+4≤(sgts s.sights).length:=by rw [zBf];omega
  have k4:IntKind.i64.wrap ((k:Int)+1)=(k+1:Nat):=wrap64 (by omega)
  have k5:=zCj s.sights k hlt
  have hx:=h.sights _ (qB hlt)
  have hm14:=hv.many
  have hlen2:(lesB s q p (s.sights.take k)).length+(leB q p s.sights[k]).length≤1000000:=by rw [lesB_len,List.length_take];simp [leB,sB];omega
  have hlb:lesB s q p (s.sights.take (k+1))=lesB s q p (s.sights.take k) ++ leB q p s.sights[k]:=by
   rw [qM hlt];unfold lesB;rw [List.flatMap_append];simp
  generalize s.sights[k]=x at *
  have w0:=rise_by hx.rise b1
  have w1:IntKind.i64.wrap (x.rise * q)=x.rise * q:=wrap64 (by omega)
  have hbd:∀ a b c d:Int,buildA T 85 [(0,.int .i64 a),(1,.int .i64 b),(2,.int .i64 c),(3,.int .i64 d)]=some (.agg [.int .i64 a,.int .i64 b,.int .i64 c,.int .i64 d]):=fun _ _ _ _=>rfl
  simp only [go_sem,l32_0,k1,decide_true,k2,k3,k5,zAi,and_self,c1,c2,zAd,AV.cells,AV.one,zL,zO,zJ,splice,zI,zH,w1,hbd,zB,zD,zC,reduceIte,reduceCtorEq,zA]
  refine qp n91 (zDn ⟨x.frm,x.to,x.rise * q,p⟩) (SubL.refl _) ?_
  simp only [go_sem,zAa,zB,zD,zC,reduceIte,reduceCtorEq,zA]
  refine MoreA.app (S:=⟨_,nt,tk⟩) (l:=leB q p x) (N:=nt) (hM.mono (S':=⟨some (.cells (surC s)) :: some (.cells [.int .i64 0,.int .i64 0]) :: some (.cells [.int .i64 p,.int .i64 q]) :: some (.cells [.int .i64 s.stations,.nilS]) :: some (.cells [M]) :: (X ++ [some (.cells (sgtC x))]),nt,tk⟩) (fun k hk _=>hk) (zM _)) (zM _) (by simp [leB,sB]) hlen2 fun M3 tk3 hM3 => ?_
  have hM3':M3.cells=[M3]∧M3.one=true:=by
   rcases hM3 with ⟨rfl,_⟩ | ⟨k,rfl,_,_⟩
   ·exact ⟨rfl,rfl⟩
   ·exact ⟨rfl,rfl⟩
  obtain ⟨q1,q2⟩:=hM3'
  simp only [go_sem,q1,q2,zAd,zL,zO,zJ,splice,and_self,zI,zH,k4,zB,zD,zC,reduceIte,reduceCtorEq,zA]
  refine zAj (s.sights.length - (k+1)) (by omega) ⟨k+1,M3,nt+1,tk3,_,hlt,rfl,rfl,rfl, ?_⟩
  rw [hlb];exact hM3.mono (fun k hk _=>hk) (zM _)
 have k1:¬ (k:Int)<s.sights.length:=by omega
 have ek:k=s.sights.length:=by omega
 subst ek
 rw [yO] at hM
 have hV:=evenV_eq h
 have hkn:kn (evS s) (lesB s q p s.sights)=some (evenV s):=by
  unfold kn
  rw [lesB_bd h b1 ⟨b2,b3⟩]
  rw [ho] at hV
  show Lv.clo (Lv.num s) (evenB s q p ++ [])=_
  rw [List.append_nil];exact hV
 have hsq:Sq (Lv.num s) (evenV s):=(Lv.clo_shape (Lv.even_oks h (Lv.err_bd h hr).1 (Lv.err_bd h hr).2) hV).sq
 have hsub:Sub M (.slice (bnds (lesB s q p s.sights)) (lesB s q p s.sights).length .unk):=by
  rcases hM with ⟨rfl,e⟩ | ⟨k,rfl,_,_⟩
  ·rw [e];exact Sub.nil
  ·exact Sub.unk _ _ _
 simp only [go_sem,l32_0,k1,decide_false,zB,zD,zC,reduceIte,reduceCtorEq,zA]
 obtain ⟨S0,hS0⟩:∃ S0:List (Option Blk),some (.cells (surC s)) :: some (.cells [.int .i64 0,.int .i64 0]) :: some (.cells [.int .i64 p,.int .i64 q]) :: some (.cells [.int .i64 s.stations,.nilS]) :: some (.cells [M]) :: (X ++ [some (.cells [.nilS])])=S0:=⟨_,rfl⟩
 have e0:cellsAt S0 0=some (surC s):=by rw [← hS0];rfl
 have e1:cellsAt S0 1=some [.int .i64 0,.int .i64 0]:=by rw [← hS0];rfl
 have e2:cellsAt S0 2=some [.int .i64 p,.int .i64 q]:=by rw [← hS0];rfl
 have e3:cellsAt S0 3=some [.int .i64 s.stations,.nilS]:=by rw [← hS0];rfl
 have e4:cellsAt S0 4=some [M]:=by rw [← hS0];rfl
 have e5:cellsAt S0 (X.length+1+1+1+1+1)=some [.nilS]:=by rw [← hS0];exact c1 _ _ _ _ _ _
 have hl0:S0.length=X.length+6:=by rw [← hS0];simp
 rw [hS0]
 have hd:(lesB s q p s.sights).length≤1000:=by rw [lesB_len];have:=hv.many;omega
 refine zCb (E:=E _) (R:=fun e S'=>e=.ret (.int .i64 0) ∧ ∃ Hh W nt tk,S'=⟨Hh,nt,tk⟩∧cellsAt Hh (X.length+1+1+1+1+1)=some [W]∧cellsAt Hh 1=some [.int .i64 0,.int .i64 0]∧cellsAt Hh 2=some [.int .i64 p,.int .i64 q]∧Own (ints (evenL s)) (Lv.num s) W nt tk) n92 (try_ac (S:=⟨S0,nt,tk⟩) n93 (least1_ac s h (lesB s q p s.sights) hd (lesB_ok h b1 ⟨b2,b3⟩) hkn hsq M _ nt tk hsub 3 4 0 (X.length+1+1+1+1+1) (zAn e3 _) (zAn e4 _) (zAn e0 _) (zAn e5 _) (by omega)) ?_ ?_) ?_ ?_
 ·rintro v S' ⟨e,Hh,W,nt',tk',rfl,d1,d3,hO⟩
  refine ⟨?_,rfl,Hh,W,nt',tk',rfl,d1, ?_, ?_,hO⟩
  ·rw [d3 S0.length (by simp) (by omega)]
   exact zAf _ _
  ·rw [d3 1 (by simp;omega) (by omega)];exact zAn e1 _
  ·rw [d3 2 (by simp;omega) (by omega)];exact zAn e2 _
 ·rintro v S' ⟨e,_⟩
  cases e
 ·rintro v S' ⟨e,Hh,W,nt',tk',rfl,d1,d2,d3,hO⟩
  cases e
  have hlt1:=zDu d2
  have d1':∀ B,cellsAt (setH Hh 1 B) (X.length+1+1+1+1+1)=some [W]:=fun B=>by rw [zBw hlt1 (by omega)];exact d1
  have d2':∀ B,cellsAt (setH Hh 1 (.cells B)) 1=some B:=fun B=>cells_self hlt1
  simp only [go_sem,d1,d2,d3,zB,zD,zC,reduceIte,reduceCtorEq,zA]
  have hlt2:=zDu d1
  refine ⟨[X.length+1+1+1+1+1],fun i hi=>by simp only [yP] at hi;subst hi;exact hlt2, ?_⟩
  simp only [go_sem,preZ,QOpZ,guardM,isW,d1,d2,d3,zB,zD,zC,reduceIte,reduceCtorEq,zA]
  refine ⟨rfl,trivial, ?_⟩
  refine ⟨lone _ _,_,lone_sees d1,by simp only [go_sem,lone_at,zB,zD,zC,reduceIte,reduceCtorEq,zA];all_goals rfl,rfl, ?_⟩
  simp only [yH,yF,Res.app]
  simp only [go_sem,d1,d2,d3,d1',d2',zAd,AV.cells,AV.one,zL,zO,zJ,splice,and_self,zI,zH,Res.app,Res.ok,zB,zD,zC,reduceIte,reduceCtorEq,zA]
  refine ⟨fun i B v e=>by cases e;simp only [yP];omega, ?_⟩
  simp only [resA,Tryz.f32]
  simp only [go_sem,d1,d2',d1',zB,zD,zC,reduceIte,reduceCtorEq,zA]
  refine ⟨_,rfl,frz_three (.same _) ?_ (.same _)⟩
  have:=hO.frz (setH Hh 1 (.cells [.int .i64 p,.int .i64 q]))
  have hlen:(evenL s).length=Lv.num s:=by simp [evenL]
  rw [← hlen] at this
  exact this
 ·intro v S' h
  cases h.1
end Go.Av.Lx
end
section
set_option maxHeartbeats 2000000
namespace Go.Av.Lx
open Go Go.Av Go.Av.Tb Go.Av.Fx Go.Proofs
open Go.Lv (Sight Survey Sw Sv SightOk Stp bgS enS riseS stpD chainB closedB sightAt flip)
open Go.Fw (Sq ent Bd Mat)
theorem un_neg (n:Int):unA .neg (.int .i64 n)=some (.int .i64 (IntKind.i64.wrap (0 - n))):=rfl
@[go_sem] theorem bd_stp (a:Int) (b:Bool):buildA T 127 [(0,.int .i64 a),(1,.bool b)]=some (.agg [.int .i64 a,.bool b]):=rfl
theorem sgts_cell (l:List Sight) (k j:Nat) (h:k<l.length) (hj:j<4):(sgts l)[k * 4+j]? = (sgtC l[k])[j]?:=by
 rw [← zCj l k h,List.getElem?_take_of_lt hj,List.getElem?_drop]
theorem sight_get {s:Survey} {k:Nat} (h:k<s.sights.length):sightAt s k=s.sights[k]:=by
 unfold sightAt
 rw [qO,zG,zF h];rfl
abbrev InS (s:Survey) (x:Stp):Prop:=0≤x.sight∧x.sight<s.sights.length
theorem enS_flip (s:Survey) (i:Int) (b:Bool):bgS s ⟨i,!b⟩=enS s ⟨i,b⟩:=by unfold bgS enS;cases b <;> rfl
theorem begins_pc (s:Survey) (x:Stp) (hx:InS s x):PC Tryz.prog 137 [surA s,.agg (stpC x)] (.pure (.int .i64 (bgS s x))):=by
 refine PC.of_empty (AC.run (E_ok _) mix Tryz.func137 m137 rfl rfl rfl (zE rfl) ?_) (by simp [bndL,AV.bnd]) rfl
 obtain ⟨i,b⟩:=x
 obtain ⟨k,rfl⟩:∃ k:Nat,i=k:=⟨i.toNat,by have:=hx.1;simp only at this;omega⟩
 have h2:(k:Int)<s.sights.length:=hx.2
 have hk:k<s.sights.length:=by omega
 have k2:0≤(k:Int)∧(k:Int)<s.sights.length:=by omega
 have g0:(sgts s.sights)[k * 4+0]? = some (.int .i64 s.sights[k].frm):=sgts_cell s.sights k 0 hk (by decide)
 have g1:(sgts s.sights)[k * 4+1]? = some (.int .i64 s.sights[k].to):=sgts_cell s.sights k 1 hk (by decide)
 unfold bgS
 rw [sight_get hk]
 cases b
 ·simp only [go_sem,boxA,k2,zAi,and_self,g0,Tryz.f137,zB,zD,zC,reduceIte,reduceCtorEq,zA]
  all_goals rfl
 ·simp only [go_sem,boxA,k2,zAi,and_self,g1,Tryz.f137,zB,zD,zC,reduceIte,reduceCtorEq,zA]
  all_goals rfl
theorem ends_pc (s:Survey) (x:Stp) (hx:InS s x):PC Tryz.prog 136 [surA s,.agg (stpC x)] (.pure (.int .i64 (enS s x))):=by
 refine PC.of_empty (AC.run (E_ok _) mix Tryz.func136 m136 rfl rfl rfl (zE rfl) ?_) (by simp [bndL,AV.bnd]) rfl
 obtain ⟨i,b⟩:=x
 have h:=begins_pc s ⟨i,!b⟩ hx
 rw [enS_flip] at h
 simp only [go_sem,boxA,zAg,zAd,AV.cells,AV.one,zL,zO,zJ,splice,zI,zH,and_self,zB,zD,zC,reduceIte,reduceCtorEq,zA]
 refine cp n137 h (SubL.refl _) ?_
 simp only [go_sem,Tryz.f136,zB,zD,zC,reduceIte,reduceCtorEq,zA]
 all_goals rfl
def upSt (s:Survey) (x:Stp):Int:=(Lv.stepB s x).m
theorem rises_pc (s:Survey) (hs:Sw s) (x:Stp) (hx:InS s x):PC Tryz.prog 135 [surA s,.agg (stpC x)] (.pure (.int .i64 (upSt s x))):=by
 refine PC.of_empty (AC.run (E_ok _) mix Tryz.func135 m135 rfl rfl rfl (zE rfl) ?_) (by simp [bndL,AV.bnd]) rfl
 obtain ⟨i,b⟩:=x
 obtain ⟨k,rfl⟩:∃ k:Nat,i=k:=⟨i.toNat,by have:=hx.1;simp only at this;omega⟩
 have h2:(k:Int)<s.sights.length:=hx.2
 have hk:k<s.sights.length:=by omega
 have k2:0≤(k:Int)∧(k:Int)<s.sights.length:=by omega
 have k3:k * 4+4≤(sgts s.sights).length:=by rw [zBf];omega
 have k5:=zCj s.sights k hk
 have hso:=hs.sights _ (qB hk)
 have hb:=hso.rise
 have hb2:=hso.off
 have w1:IntKind.i64.wrap (s.sights[k].rise+s.sights[k].off)=s.sights[k].rise+s.sights[k].off:=wrap64 (by omega)
 have w2:IntKind.i64.wrap (s.sights[k].off - s.sights[k].rise)=s.sights[k].off - s.sights[k].rise:=wrap64 (by omega)
 have hB:=zDn s.sights[k]
 have z0:(0:Int)≤0∧(0:Int)<((2:Nat):Int):=by decide
 have z1:(0:Int)≤1∧(1:Int)<((2:Nat):Int):=by decide
 unfold upSt Lv.stepB Lv.stepG
 rw [sight_get hk]
 unfold Lv.upS Lv.downS
 unfold sB bnds at hB
 rw [w1,w2] at hB
 generalize s.sights[k]=y at *
 simp only [go_sem,boxA,k2,k3,k5,zAi,and_self,zB,zD,zC,reduceIte,reduceCtorEq,zA]
 have hB':PC Tryz.prog 91 [.agg (sgtC y)] (.pure (.slice [.int .i64 y.frm,.int .i64 y.to,.int .i64 (y.rise+y.off),.int .i64 y.to,.int .i64 y.frm,.int .i64 (y.off - y.rise)] 2 .exact)):=hB
 refine cp n91 hB' (SubL.refl _) ?_
 cases b
 ·simp only [go_sem,z0,Int.toNat_zero,Nat.zero_mul,Tryz.f135,zB,zD,zC,reduceIte,reduceCtorEq,zA]
  all_goals rfl
 ·simp only [go_sem,z1,Int.toNat_one,Nat.one_mul,Tryz.f135,zB,zD,zC,reduceIte,reduceCtorEq,zA]
  all_goals rfl
theorem stp_getD {l:List Stp} {k:Nat} (h:k<l.length):l.getD k stpD=l[k]:=by rw [zG,zF h];rfl
set_option maxHeartbeats 2000000

end Go.Av.Lx
end
section
set_option maxHeartbeats 2000000
namespace Go.Av.Lx
open Go Go.Av Go.Av.Tb Go.Av.Fx Go.Proofs
open Go.Lv (Sight Survey Sw Sv SightOk Stp bgS enS riseS riseL stpD chainB closedB stpAt goesB greater worstF FrQ redF)
open Go.Fw (Sq ent Bd Mat)
@[go_sem] theorem bs_stp (a:Int) (b:Bool):zAe T 117 1 [(0,.agg [.int .i64 a,.bool b])]=some (.slice [.int .i64 a,.bool b] 1 .exact):=rfl
theorem stps_one (l:List Stp):(stpsC l).all AV.one=true:=cat_one (f:=stpC) (fun _=>rfl) l
theorem stps_snoc (l:List Stp) (x:Stp):stpsC l ++ [.int .i64 x.sight,.bool x.back]=stpsC (l ++ [x]):=cat_snoc (f:=stpC) l x
end Go.Av.Lx
end
section
set_option maxHeartbeats 2000000
namespace Go.Av.Lx
open Go Go.Av Go.Av.Tb Go.Av.Fx Go.Proofs
open Go.Lv (Sight Survey Sw Sv SightOk Stp errF evenB redF RedP worstF FrQ)
open Go.Fw (Sq ent Bd Mat)

end Go.Av.Lx
end
section
set_option maxHeartbeats 2000000
namespace Go.Av.Lx
open Go Go.Av Go.Av.Tb Go.Av.Fx Go.Proofs
open Go.Lv (Sight Survey Sw Sv SightOk Try TryOk sum2 sum3 withL allowsB tried riseAt worstAt worstW)
open Go.Fw (Sq ent Bd Mat)
abbrev Sm (a:Int):Prop:=a<far → -1000000≤a∧a≤1000000
theorem sum2_eq {a b:Int} (ha:Sm a) (hb:Sm b):sumF 0 [a,b]=sum2 a b:=by
 have ef:far=1099511627776:=rfl
 have ef2:Lv.far=1099511627776:=rfl
 unfold sumF sumF sumF sum2
 by_cases h1:a ≥ far
 ·rw [if_pos h1,if_pos (.inl h1)];rfl
 have k1:=ha (by omega)
 have w1:IntKind.i64.wrap (0+a)=a:=by rw [Int.zero_add];exact wrap64 (by omega)
 rw [if_neg h1,w1]
 by_cases h2:b ≥ far
 ·rw [if_pos h2,if_pos (.inr h2)];rfl
 have k2:=hb (by omega)
 rw [if_neg h2,if_neg (by omega)]
 exact wrap64 (by omega)
theorem sum3_eq {a b c:Int} (ha:Sm a) (hb:Sm b) (hc:Sm c):sumF 0 [a,b,c]=sum3 a b c:=by
 have ef:far=1099511627776:=rfl
 have ef2:Lv.far=1099511627776:=rfl
 unfold sumF sumF sumF sumF sum3
 by_cases h1:a ≥ far
 ·rw [if_pos h1,if_pos (.inl h1)];rfl
 have k1:=ha (by omega)
 have w1:IntKind.i64.wrap (0+a)=a:=by rw [Int.zero_add];exact wrap64 (by omega)
 rw [if_neg h1,w1]
 by_cases h2:b ≥ far
 ·rw [if_pos h2,if_pos (.inr (.inl h2))];rfl
 have k2:=hb (by omega)
 have w2:IntKind.i64.wrap (a+b)=a+b:=wrap64 (by omega)
 rw [if_neg h2,w2]
 by_cases h3:c ≥ far
 ·rw [if_pos h3,if_pos (.inr (.inr h3))];rfl
 have k3:=hc (by omega)
 rw [if_neg h3,if_neg (by omega)]
 exact wrap64 (by omega)
theorem sm_ent {s:Survey} (h:Sw s) {V:Mat} (hV:Lv.knownV s=some V) {i j:Nat} (hi:i<Lv.num s) (hj:j<Lv.num s):Sm (ent V i j):=fun hf=>by
 have:=Lv.known_bd h hV hi hj hf
 omega
@[go_sem] theorem bs_int2 (a b:Int):zAe T 32 2 [(0,.int .i64 a),(1,.int .i64 b)]=some (.slice [.int .i64 a,.int .i64 b] 2 .exact):=rfl
@[go_sem] theorem bs_int3 (a b c:Int):zAe T 32 3 [(0,.int .i64 a),(1,.int .i64 b),(2,.int .i64 c)]=some (.slice [.int .i64 a,.int .i64 b,.int .i64 c] 3 .exact):=rfl
structure BoS (n:Nat) (x:Bound):Prop where
 a:0≤x.a∧x.a<n
 b:0≤x.b∧x.b<n
 most:-1000000≤x.most∧x.most≤1000000
theorem allows1_pc (s:Survey) (h:Sw s) {V:Mat} (hV:Lv.knownV s=some V) (x:Bound) (hx:BoS (Lv.num s) x):PC Tryz.prog 177 [.agg (bndC x),.eptr (kvC s (wS V)) 0] (.pure (.bool (decide (sum2 (ent V x.b.toNat x.a.toNat) x.most<0)))):=by
 refine PC.of_empty (AC.run (E_ok _) mix Tryz.func177 m177 rfl rfl rfl (zE rfl) ?_) (by simp [bndL,AV.bnd]) rfl
 have hsq:Sq (Lv.num s) V:=zBk (ds:=[]) hV
 obtain ⟨a,b,m⟩:=x
 have h1:=hx.a;have h2:=hx.b;have h3:=hx.most
 simp only at h1 h2 h3
 obtain ⟨a,rfl⟩:∃ a':Nat,a=a':=⟨a.toNat,by omega⟩
 obtain ⟨b,rfl⟩:∃ b':Nat,b=b':=⟨b.toNat,by omega⟩
 have ha:a<Lv.num s:=by omega
 have hb:b<Lv.num s:=by omega
 have hs:=sum2_eq (sm_ent h hV hb ha) (fun _=>h3)
 simp only [qO]
 have hf:=Lv.sum2 (ent V b a) m
 have ga:=zDl hsq hb
 have gl:=hsq.getD hb
 have e:=zBe hsq hb ha
 have xa:0≤(b:Int)∧(b:Int)<(V.length:Int):=by have:=hsq.1;omega
 have xb:0≤(a:Int)∧(a:Int)<(Lv.num s:Int):=by omega
 have hsum:=sum_pc' [ent V b a,m] (by show 2<9223372036854775807;decide)
 rw [hs] at hsum
 simp only [go_sem,boxA,xa,xb,ga,gl,e,zAi,and_self,zB,zD,zC,reduceIte,reduceCtorEq,zA]
 refine cp n151 hsum (SubL.cons (Sub.unk _ 2 .exact) (SubL.refl [])) ?_
 simp only [go_sem,Tryz.f177,zB,zD,zC,reduceIte,reduceCtorEq,zA]
theorem sB_two {n:Int} {y:Sight} (hy:SightOk n y):sB y=[⟨y.frm,y.to,y.rise+y.off⟩,⟨y.to,y.frm,y.off - y.rise⟩]:=by
 have h1:=hy.rise;have h2:=hy.off
 have w1:IntKind.i64.wrap (y.rise+y.off)=y.rise+y.off:=wrap64 (by omega)
 have w2:IntKind.i64.wrap (y.off - y.rise)=y.off - y.rise:=wrap64 (by omega)
 simp only [sB,w1,w2]
theorem sB_bos {s:Survey} (h:Sw s) {y:Sight} (hy:SightOk s.stations y):∀ x∈sB y,BoS (Lv.num s) x:=by
 have hst:s.stations=(Lv.num s:Int):=by have:=h.st;show _=((s.stations.toNat:Nat):Int);omega
 have h1:=hy.rise;have h2:=hy.off;have h3:=hy.frm;have h4:=hy.to
 rw [sB_two hy]
 intro x hx
 simp only [yM,yA,or_false] at hx
 rcases hx with rfl | rfl
 ·exact ⟨by show 0≤y.frm∧y.frm<_;omega,by show 0≤y.to∧y.to<_;omega,by show -1000000≤y.rise+y.off∧y.rise+y.off≤_;omega⟩
 ·exact ⟨by show 0≤y.to∧y.to<_;omega,by show 0≤y.frm∧y.frm<_;omega,by show -1000000≤y.off - y.rise∧y.off - y.rise≤_;omega⟩
theorem allows_pc (s:Survey) (h:Sw s) {V:Mat} (hV:Lv.knownV s=some V) (y:Sight) (hy:SightOk s.stations y):PC Tryz.prog 158 [kA s V,.agg (sgtC y)] (.pure (.bool (allowsB V y))):=by
 refine PC.of_empty (AC.run (E_ok _) mix Tryz.func158 m158 rfl rfl rfl (zE rfl) ?_) (by simp [bndL,AV.bnd]) rfl
 have hC:=containsFuncB_pc (sB y) (by show 2<9223372036854775807;decide) 177 n177 [.eptr (kvC s (wS V)) 0] (by simp [bndL,AV.bnd]) (fun x=>decide (sum2 (ent V x.b.toNat x.a.toNat) x.most<0)) (fun x hx=>allows1_pc s h hV x (sB_bos h hy x hx))
 have hany:(!(sB y).any fun x=>decide (sum2 (ent V x.b.toNat x.a.toNat) x.most<0))=allowsB V y:=by
  rw [sB_two hy]
  unfold allowsB
  simp
 simp only [go_sem,boxA,zB,zD,zC,reduceIte,reduceCtorEq,zA]
 refine cp n91 (zDn y) (SubL.refl _) ?_
 simp only [go_sem,zB,zD,zC,reduceIte,reduceCtorEq,zA]
 refine cl n176 hC (LntL.cons (.unk _ 2 .exact (bnds_bnd _ _ _)) (LntL.cons (Lnt.func1 (.ptr 0 0 _ rfl (by simp [bndL,AV.bnd]))) (LntL.nil _))) rfl ?_
 simp only [go_sem,zAg,hany,Tryz.f158,zB,zD,zC,reduceIte,reduceCtorEq,zA]
theorem with_draw {s:Survey} (h:Sw s) {V:Mat} (hV:Lv.knownV s=some V) {i j:Nat} (hi:i<Lv.num s) (hj:j<Lv.num s) (x:Bound) (hx:BoS (Lv.num s) x) (w:Int) (B N K:AV) (L:Nat) (H:List (Option Blk)) (nt:Nat) (tk:List Nat) (c0:cellsAt H 0=some (kvC s (wS V))) (cL:cellsAt H L=some (bndC x)) (Q:AQ)
  (hQ:Q .normal [(2,.int .i64 i),(3,.int .i64 j),(4,.ref 0 0),(9,.int .i64 (min w (sum3 (ent V i x.a.toNat) x.most (ent V x.b.toNat j)))),(21,B),(22,N),(23,K)] ⟨H,nt,tk⟩) :
  WC (E 53) (.draw [2,3,4,9,21,22,23] 23 [] r159_5) Q [(2,.int .i64 i),(3,.int .i64 j),(4,.ref 0 0),(9,.int .i64 w),(21,B),(22,N),(23,K),(11,.ref L 0)] ⟨H,nt,tk⟩:=by
 have hsq:Sq (Lv.num s) V:=zBk (ds:=[]) hV
 obtain ⟨a,b,m⟩:=x
 have h1:=hx.a;have h2:=hx.b;have h3:=hx.most
 simp only at h1 h2 h3
 obtain ⟨a,rfl⟩:∃ a':Nat,a=a':=⟨a.toNat,by omega⟩
 obtain ⟨b,rfl⟩:∃ b':Nat,b=b':=⟨b.toNat,by omega⟩
 have ha:a<Lv.num s:=by omega
 have hb:b<Lv.num s:=by omega
 have hs:=sum3_eq (sm_ent h hV hi ha) (fun _=>h3) (sm_ent h hV hb hj)
 simp only [qO] at hQ
 have hsum:=sum_pc' [ent V i a,m,ent V b j] (by show 3<9223372036854775807;decide)
 rw [hs] at hsum
 generalize sum3 (ent V i a) m (ent V b j)=z at *
 have hmn:(if z<w then z else w)=min w z:=by split <;> omega
 have ga:=zDl hsq hi
 have gl:=hsq.getD hi
 have ea:=zBe hsq hi ha
 have gb:=zDl hsq hb
 have gm:=hsq.getD hb
 have eb:=zBe hsq hb hj
 have xi:0≤(i:Int)∧(i:Int)<(V.length:Int):=by have:=hsq.1;omega
 have xb:0≤(b:Int)∧(b:Int)<(V.length:Int):=by have:=hsq.1;omega
 have xa:0≤(a:Int)∧(a:Int)<(Lv.num s:Int):=by omega
 have xj:0≤(j:Int)∧(j:Int)<(Lv.num s:Int):=by omega
 simp only [go_sem,c0,cL,xi,xb,xa,xj,ga,gl,ea,gb,gm,eb,zAi,and_self,zB,zD,zC,reduceIte,reduceCtorEq,zA]
 refine qp n151 hsum (SubL.cons (Sub.unk _ 3 .exact) (SubL.refl [])) ?_
 simp only [go_sem,zAa,minsA,hmn,zB,zD,zC,reduceIte,reduceCtorEq,zA]
 exact hQ
end Go.Av.Lx
end
section
set_option maxHeartbeats 2000000
namespace Go.Av.Lx
open Go Go.Av Go.Av.Tb Go.Av.Fx Go.Proofs
open Go.Lv (Sight Survey Sw Sv SightOk Try TryOk sum2 sum3 withL allowsB tried riseAt worstAt worstW bestAt)
open Go.Fw (Sq ent Bd Mat)
@[go_sem] theorem bd_lsight (a b c d:Int):buildA T 85 [(0,.int .i64 a),(1,.int .i64 b),(2,.int .i64 c),(3,.int .i64 d)]=some (.agg [.int .i64 a,.int .i64 b,.int .i64 c,.int .i64 d]):=rfl
theorem with_pc (s:Survey) (h:Sw s) {V:Mat} (hV:Lv.knownV s=some V) (y:Sight) (hy:SightOk s.stations y) {i j:Nat} (hi:i<Lv.num s) (hj:j<Lv.num s):PC Tryz.prog 159 [kA s V,.agg (sgtC y),.int .i64 i,.int .i64 j] (.pure (.int .i64 (withL V y i j))):=by
 refine PC.of_empty (AC.run (E_ok _) mix Tryz.func159 m159 rfl rfl rfl (zE rfl) ?_) (by simp [bndL,AV.bnd]) rfl
 have hsq:Sq (Lv.num s) V:=zBk (ds:=[]) hV
 have ga:=zDl hsq hi
 have gl:=hsq.getD hi
 have e:=zBe hsq hi hj
 have xa:0≤(i:Int)∧(i:Int)<(V.length:Int):=by have:=hsq.1;omega
 have xb:0≤(j:Int)∧(j:Int)<(Lv.num s:Int):=by omega
 obtain ⟨F,hF⟩:∃ F:Int→Bound→Int,F=fun w x=>min w (sum3 (ent V i x.a.toNat) x.most (ent V x.b.toNat j)):=⟨_,rfl⟩
 have hres:withL V y i j=(sB y).foldl F (ent V i j):=by rw [sB_two hy,hF];rfl
 have hbos:=sB_bos h hy
 have hl2:(sB y).length=2:=rfl
 rw [hres]
 simp only [go_sem,boxA,xa,xb,ga,gl,e,zAi,and_self,zB,zD,zC,reduceIte,reduceCtorEq,zA]
 refine cp n91 (zDn y) (SubL.refl _) ?_
 have hlen:zAa T St.empty .len [138] [.slice (bnds (sB y)) 2 .exact]=some (.pure (.int .i64 (2:Nat))):=rfl
 simp only [go_sem,zAa,zB,zD,zC,reduceIte,reduceCtorEq,zA]
 refine wc_forE 2 (fun k=>[(2,.int .i64 i),(3,.int .i64 j),(4,.ref 0 0),(9,.int .i64 (((sB y).take k).foldl F (ent V i j))),(21,.slice (bnds (sB y)) 2 .exact),(22,.int .i64 (2:Nat)),(23,.int .i64 (k:Nat))])
  (fun k S => ∃ X,S=⟨[some (.cells (kvC s (wS V))),some (.cells (sgtC y))] ++ X,0,[]⟩) rfl ⟨[],rfl⟩ ?_
 rintro k hk S ⟨X,rfl⟩ I hI
 by_cases hlt:k<2
 ·have h1:(k:Int)<(2:Nat):=by omega
  have h2:0≤(k:Int)∧(k:Int)<(2:Nat):=by omega
  have h3:k * 3+3≤(bnds (sB y)).length:=by rw [bnds_len,hl2];omega
  have h4:IntKind.i64.wrap ((k:Int)+1)=(k+1:Nat):=wrap64 (by omega)
  have h5:=bnds_at (sB y) k (by rw [hl2];exact hlt)
  have hx:=hbos _ (qB (by rw [hl2];exact hlt:k<(sB y).length))
  have hI:=hI hlt
  rw [zCz _ _ _ _ (by rw [hl2];exact hlt)] at hI
  have c1:=fun l=>zAf X l
  have c2:=fun x B=>zAs X x B
  generalize ((sB y).take k).foldl F (ent V i j)=w at *
  generalize (sB y)[k]=x at *
  obtain ⟨D,hD⟩:∃ D,MC.draw [2,3,4,9,21,22,23] 23 [] r159_5=D:=⟨_,rfl⟩
  unfold l159_0
  rw [hD]
  simp only [go_sem,h1,decide_true,h2,h3,h5,zAi,and_self,c1,c2,zAd,AV.cells,AV.one,zL,zO,zJ,splice,zI,zH,zB,zD,zC,reduceIte,reduceCtorEq,zA]
  subst hD
  refine with_draw h hV hi hj x hx w _ _ _ _ _ _ _ rfl ?_ _ ?_
  ·exact zAf (some (.cells (kvC s (wS V))) :: some (.cells (sgtC y)) :: X) _
  simp only [go_sem,h4,zB,zD,zC,reduceIte,reduceCtorEq,zA]
  rw [hF] at hI
  exact hI _ ⟨X ++ [some (.cells (bndC x))],rfl⟩
 ·have h1:¬ (k:Int)<(2:Nat):=by omega
  have ek:k=2:=by omega
  subst ek
  have e2:(sB y).take 2=sB y:=rfl
  rw [e2]
  simp only [go_sem,l159_0,h1,decide_false,Tryz.f159,zB,zD,zC,reduceIte,reduceCtorEq,zA]
theorem withL_bd {s:Survey} (h:Sw s) {V:Mat} (hV:Lv.knownV s=some V) {y:Sight} (hy:SightOk s.stations y) (ha:allowsB V y=true) {i j:Nat} (hi:i<Lv.num s) (hj:j<Lv.num s) (hf:ent V i j<far):-8400≤withL V y i j∧withL V y i j≤8400:=by
 have hk:=Lv.with_known h hy hV
 rw [ha] at hk
 cases hV':Lv.knownV (Lv.withS s y) with
 | none=>rw [hV'] at hk;cases hk
 | some V' =>
  have e:=Lv.with_ent h hy hV hV' hi hj hf
  have hle:withL V y i j≤ent V i j:=by unfold withL;omega
  have:=Lv.known_bd (Lv.with_sw h hy) hV' (i:=i) (j:=j) hi hj (by rw [e];exact Int.lt_of_le_of_lt hle hf)
  rw [e] at this
  exact this
theorem tryWorst_pc (s:Survey) (h:Sw s) {V:Mat} (hV:Lv.knownV s=some V) (x:Try) (hx:TryOk s.stations x) {i j:Nat} (hi:i<Lv.num s) (hj:j<Lv.num s) (hf:ent V i j<far):PC Tryz.prog 116 [kA s V,.agg (tryC x),.int .i64 i,.int .i64 j] (.pure (.int .i64 (worstW V x i j))):=by
 refine PC.of_empty (AC.run (E_ok _) mix Tryz.func116 m116 rfl rfl rfl (zE rfl) ?_) (by simp [bndL,AV.bnd]) rfl
 have hf2:=Lv.known_sym h hV hi hj hf
 have b1:=Lv.known_bd h hV hi hj hf
 have b2:=Lv.known_bd h hV hj hi hf2
 have hsq:Sq (Lv.num s) V:=zBk (ds:=[]) hV
 simp only [go_sem,boxA,zB,zD,zC,reduceIte,reduceCtorEq,zA]
 refine wc_forE 2001 (fun k=>[(2,.int .i64 i),(3,.int .i64 j),(4,.ref 0 0),(5,.ref 1 0),(9,.int .i64 (worstAt V x i j k)),(10,.int .i64 (riseAt k))])
  (fun k S => ∃ X,S=⟨[some (.cells (kvC s (wS V))),some (.cells (tryC x))] ++ X,0,[]⟩) rfl ⟨[],rfl⟩ ?_
 rintro k hk S ⟨X,rfl⟩ I hI
 by_cases hlt:k<2001
 ·have h1:riseAt k≤1000:=by unfold riseAt;omega
  have h4:IntKind.i64.wrap (riseAt k+1)=riseAt (k+1):=by unfold riseAt;rw [wrap64 (by omega)];omega
  have hr:-1000≤riseAt k∧riseAt k≤1000:=⟨by unfold riseAt;omega,h1⟩
  have hy:=Lv.tried_ok hx hr
  have hI:=hI hlt
  have hw:worstAt V x i j (k+1)=if allowsB V (tried x (riseAt k))=true then max (worstAt V x i j k) (withL V (tried x (riseAt k)) i j+withL V (tried x (riseAt k)) j i) else worstAt V x i j k:=rfl
  rw [hw,← h4] at hI
  have hap:=allows_pc s h hV _ hy
  have hwp1:=with_pc s h hV _ hy hi hj
  have hwp2:=with_pc s h hV _ hy hj hi
  have hbd1:=fun ha=>withL_bd h hV hy ha hi hj hf
  have hbd2:=fun ha=>withL_bd h hV hy ha hj hi hf2
  have ht:sgtC (tried x (riseAt k))=[.int .i64 x.frm,.int .i64 x.to,.int .i64 (riseAt k),.int .i64 x.off]:=rfl
  rw [ht] at hap hwp1 hwp2
  generalize tried x (riseAt k)=y at *
  generalize riseAt k=r at *
  generalize worstAt V x i j k=w at *
  have c1:=fun l=>zAf X l
  have c2:=fun x B=>zAs X x B
  simp only [go_sem,l116_0,h1,decide_true,c1,c2,zAd,AV.cells,AV.one,zL,zO,zJ,splice,zI,zH,and_self,zB,zD,zC,reduceIte,reduceCtorEq,zA]
  refine cp n158 hap (SubL.refl _) ?_
  cases ha:allowsB V y
  ·rw [ha,if_neg (by decide)] at hI
   simp only [go_sem,zB,zD,zC,reduceIte,reduceCtorEq,zA]
   exact hI _ ⟨X ++ [some (.cells [.int .i64 x.frm,.int .i64 x.to,.int .i64 r,.int .i64 x.off])],rfl⟩
  ·rw [ha,if_pos rfl] at hI
   have a1:=hbd1 ha
   have a2:=hbd2 ha
   have wz:IntKind.i64.wrap (withL V y i j+withL V y j i)=withL V y i j+withL V y j i:=wrap64 (by omega)
   have hmx:(if withL V y i j+withL V y j i > w then withL V y i j+withL V y j i else w)=max w (withL V y i j+withL V y j i):=by split <;> omega
   simp only [go_sem,c1,zB,zD,zC,reduceIte,reduceCtorEq,zA]
   refine qp n159 hwp1 (SubL.refl _) ?_
   simp only [go_sem,c1,zB,zD,zC,reduceIte,reduceCtorEq,zA]
   refine qp n159 hwp2 (SubL.refl _) ?_
   simp only [go_sem,wz,zAa,maxsA,hmx,zB,zD,zC,reduceIte,reduceCtorEq,zA]
   exact hI _ ⟨X ++ [some (.cells [.int .i64 x.frm,.int .i64 x.to,.int .i64 r,.int .i64 x.off])],rfl⟩
 ·have h1:¬ riseAt k≤1000:=by unfold riseAt;omega
  have ek:k=2001:=by omega
  subst ek
  unfold worstW
  by_cases hn:worstAt V x i j 2001<0
  ·rw [if_pos hn]
   have ga:=zDl hsq hi
   have gl:=hsq.getD hi
   have ea:=zBe hsq hi hj
   have gb:=zDl hsq hj
   have gm:=hsq.getD hj
   have eb:=zBe hsq hj hi
   have xi:0≤(i:Int)∧(i:Int)<(V.length:Int):=by have:=hsq.1;omega
   have xb:0≤(j:Int)∧(j:Int)<(V.length:Int):=by have:=hsq.1;omega
   have xa:0≤(i:Int)∧(i:Int)<(Lv.num s:Int):=by omega
   have xj:0≤(j:Int)∧(j:Int)<(Lv.num s:Int):=by omega
   have wz:IntKind.i64.wrap (ent V i j+ent V j i)=ent V i j+ent V j i:=wrap64 (by omega)
   simp only [go_sem,l116_0,h1,decide_false,hn,decide_true,zB,zD,zC,reduceIte,reduceCtorEq,zA]
   simp only [go_sem,xi,xb,xa,xj,ga,gl,ea,gb,gm,eb,zAi,and_self,wz,Tryz.f116,zB,zD,zC,reduceIte,reduceCtorEq,zA]
  ·rw [if_neg hn]
   simp only [go_sem,l116_0,h1,decide_false,hn,Tryz.f116,zB,zD,zC,reduceIte,reduceCtorEq,zA]
end Go.Av.Lx
end
