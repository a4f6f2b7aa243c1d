/- Part 22 of the proof. -/
import Derived.Test.YtclmbbofpaecaaaGreatDoorVg21
set_option linter.all false
set_option linter.unusedVariables false
set_option linter.unusedSimpArgs false
set_option linter.unusedSectionVars false
open Bool renaming and_self → zJ, and_eq_true → zU, not_true → zY, not_false → qD, false_and → qJ, true_and → yF, not_eq_true' → yR
open Int renaming toNat_natCast → qR, le_refl → yK
open List renaming getElem?_eq_getElem → zF, getD_eq_getElem?_getD → zG, set_cons_succ → zH, set_cons_zero → zI, all_cons → zK, all_nil → zM, getElem?_eq_none → zO, mem_cons_self → zP, mem_cons_of_mem → zQ, getElem?_append_right → zS, getElem_mem → zT, length_append → zX, length_cons → qA, getElem?_map → qF, take_succ_eq_append_getElem → qH, getElem?_append_left → qK, nil_append → qL, getElem?_range → qN, getElem?_replicate → qW, map_append → qX, not_mem_nil → qZ, flatMap_cons → yB, all_eq_true → yG, take_length → yH, range_succ → yI, mem_cons → yJ, length_take → yO, headD_cons → yP, map_cons → yU, tail_cons → yV, mem_singleton → yZ
open Nat renaming reduceLeDiff → zA, reduceEqDiff → zB, reduceAdd → zC, reduceBEq → zD, le_of_ble_eq_true → zE, le_refl → zN, lt_or_ge → zW, zero_le → qM, not_lt_zero → qS
open Option renaming map_some → zZ
section
set_option maxHeartbeats 2000000
namespace Go.Av.Lx
open Go Go.Av Go.Av.Tb Go.Av.Fx Go.Proofs
open Go.Lv (Sight Survey Sw Sv SightOk Stp zBw walkRow rowStep rowOne walkN better zDq errF redF ErrQ)
open Go.Fw (Sq ent Bd Mat)
def walkW (s:Survey) (i:Nat):Mat:=(List.range (Lv.num s)).map (walkN s i)
theorem walkW_get (s:Survey) (i:Nat) {a:Nat} (ha:a<Lv.num s):(walkW s i).getD a []=walkN s i a:=by
 unfold walkW
 rw [zG,qF,qN ha];rfl
theorem walkW_sq {s:Survey} (h:Sw s) {i:Nat} (hi:i≤100):Sq (Lv.num s) (walkW s i):=by
 refine ⟨by simp [walkW],fun a r hr => ?_⟩
 unfold walkW at hr
 rw [qF] at hr
 rcases zW a (Lv.num s) with ha | ha
 ·rw [qN ha] at hr
  cases hr
  exact (Lv.walkN_row h ha i hi).len
 ·rw [zO (by simpa using ha)] at hr;cases hr
theorem walk_val {s:Survey} (h:Sw s) {i a v:Nat} (hi:i≤100) (ha:a<Lv.num s) (hv:v<Lv.num s):-far≤(walkN s i a).getD v 0∧((walkN s i a).getD v 0 > -far → -1000 * (i:Int)≤(walkN s i a).getD v 0∧(walkN s i a).getD v 0≤1000 * i):=by
 have hr:=Lv.walkN_row h ha i hi
 refine ⟨hr.low v hv,fun g => ?_⟩
 obtain ⟨l,hl,e⟩:=hr.met v hv g
 have:=Lv.rise_bd h hl.ok
 rw [hl.len,e] at this
 exact this
theorem walkW_m {s:Survey} (h:Sw s) {i:Nat} (hi:i≤100):WalkM (Lv.num s) (walkW s i):=by
 have key:∀ a v,a<Lv.num s→v<Lv.num s → -far≤ent (walkW s i) a v∧ent (walkW s i) a v≤1000000:=fun a v ha hv=>by
  have:=walk_val h hi ha hv
  show -far≤((walkW s i).getD a []).getD v 0∧((walkW s i).getD a []).getD v 0≤1000000
  rw [walkW_get s i ha]
  have hf:far=1099511627776:=rfl
  by_cases g:(walkN s i a).getD v 0 > -far
  ·have:=this.2 g;omega
  ·omega
 exact ⟨walkW_sq h hi,fun a v ha hv=>(key a v ha hv).1,fun a v ha hv=>(key a v ha hv).2⟩
theorem walkW_succ (s:Survey) (i:Nat):((List.range (Lv.num s)).map fun a=>walkRow s ((walkW s i).getD a []))=walkW s (i+1):=by
 show _=(List.range (Lv.num s)).map (walkN s (i+1))
 refine List.map_congr_left fun a ha => ?_
 rw [walkW_get s i (List.mem_range.1 ha)];rfl
abbrev frA (o:Int × Int):AV:=.agg [.int .i64 o.1,.int .i64 o.2]
theorem mul_bd {r b:Int} (hr:-8000≤r∧r≤8000) (hb:1≤b∧b≤8):-64000≤r * b∧r * b≤64000:=by
 have:b=1∨b=2∨b=3∨b=4∨b=5∨b=6∨b=7∨b=8:=by omega
 rcases this with rfl | rfl | rfl | rfl | rfl | rfl | rfl | rfl <;> omega
@[go_sem] theorem bd_fr (a b:Int):buildA T 49 [(0,.int .i64 a),(1,.int .i64 b)]=some (.agg [.int .i64 a,.int .i64 b]):=rfl
@[go_sem] theorem bd_fr1 (b:Int):buildA T 49 [(1,.int .i64 b)]=some (.agg [.int .i64 0,.int .i64 b]):=rfl
@[go_sem] theorem bd_fr0:buildA T 49 []=some (.agg [.int .i64 0,.int .i64 0]):=rfl
theorem least_err_pc (s:Survey) (h:Sw s) (hl:s.sights.length≤100):PC Tryz.prog 90 [surA s] (.pure (frA (errF s))):=by
 refine PC.of_empty (AC.run (E_ok _) mix Tryz.func90 m90 rfl rfl rfl (zE rfl) ?_) (by simp [bndL,AV.bnd]) rfl
 obtain ⟨n,hn⟩:∃ n,n=Lv.num s:=⟨_,rfl⟩
 have hst:s.stations=(n:Int):=by have:=h.st;rw [hn];show _=((s.stations.toNat:Nat):Int);omega
 have hn2:2≤n∧n≤8:=by have:=h.st;omega
 obtain ⟨oL,hoL⟩:∃ oL:Nat→Int × Int,oL=fun i=>(List.range i).foldl (fun o i=>zDq s i o) (0,1):=⟨_,rfl⟩
 have oL0:oL 0=(0,1):=by rw [hoL];rfl
 have oLs:∀ i,oL (i+1)=zDq s i (oL i):=fun i=>by rw [hoL];exact Fw.fold_succ _ _ _
 have oLn:oL n=Lv.leastF s:=by rw [hoL,hn];rfl
 clear hoL
 have start:ErrQ s (fun _ _=>False) (oL 0):=by
  rw [oL0]
  exact ⟨⟨by show (0:Int)<1;decide,by show (1:Int)≤((Lv.num s:Nat):Int);omega⟩,⟨yK _,by show (0:Int)≤1000 * 1;decide⟩,fun l a _ _ _ _ _ hf=>hf.elim,.inl rfl⟩
 simp only [go_sem,boxA,zAd,AV.cells,AV.one,zK,zM,zJ,splice,zI,zH,and_self,zB,zD,zC,reduceIte,reduceCtorEq,zA]
 refine cp n146 (still_pc s h) (SubL.refl _) ?_
 simp only [go_sem,hst,zB,zD,zC,reduceIte,reduceCtorEq,zA]
 rw [show (List.range (Lv.num s)).map (zBw (Lv.num s))=walkW s 0 from rfl]
 refine zBb n (fun i => ∃ M,ErrQ s M (oL i)) (fun i=>[(1,.ref 0 0),(2,.ref 1 0),(3,.ref 2 0),(4,wS (walkW s i)),(13,.int .i64 n),(14,.int .i64 (i:Nat))]) (fun i=>⟨[some (.cells [.int .i64 n,.slice (sgts s.sights) s.sights.length .unk]),some (.cells [.int .i64 0,.int .i64 0]),some (.cells [.int .i64 (oL i).1,.int .i64 (oL i).2])],0,[]⟩) ⟨_,start⟩ rfl (by rw [oL0]) ?_
 rintro i hi ⟨M,hM⟩ I hI
 by_cases hlt:i<n
 rotate_left
 ·have h1:¬ (i:Int)<n:=by omega
  have e:i=n:=by omega
  subst e
  rw [oLn] at hM ⊢
  unfold errF redF
  have d1:=hM.den
  have d2:=hM.num0
  generalize Lv.leastF s=o at *
  obtain ⟨p,q⟩:=o
  simp only at d1 d2
  obtain ⟨p,rfl⟩:∃ p':Nat,p=p':=⟨p.toNat,by omega⟩
  obtain ⟨q,rfl⟩:∃ q':Nat,q=q':=⟨q.toNat,by omega⟩
  simp only [qR]
  have hgp:0<Nat.gcd p q:=Nat.gcd_pos_of_pos_right _ (by omega)
  have q1:=quo_nat (x:=p) hgp (by omega)
  have q2:=quo_nat (x:=q) hgp (by omega)
  simp only [go_sem,l90_0,h1,decide_false,zB,zD,zC,reduceIte,reduceCtorEq,zA]
  refine cp n148 (divisor_pc p q) (SubL.refl _) ?_
  simp only [go_sem,q1,q2,zAd,AV.cells,AV.one,zK,zM,zJ,splice,zI,zH,and_self,Tryz.f90,zB,zD,zC,reduceIte,reduceCtorEq,zA]
  all_goals rfl
 have h1:(i:Int)<n:=by omega
 have h4:IntKind.i64.wrap ((i:Int)+1)=(i+1:Nat):=wrap64 (by omega)
 have hw:=walks_pc s h hl (walkW_m h (i:=i) (by omega))
 rw [walkW_succ] at hw
 simp only [surA,surC,hst] at hw
 have hI:=hI hlt
 rw [oLs] at hI
 simp only [go_sem,l90_0,h1,decide_true,zB,zD,zC,reduceIte,reduceCtorEq,zA]
 refine cp n147 hw (SubL.refl _) ?_
 simp only [go_sem,zB,zD,zC,reduceIte,reduceCtorEq,zA]
 obtain ⟨oI,hoI⟩:∃ oI:Nat→Int × Int,oI=fun k=>(List.range k).foldl (fun o a=>better o ((walkN s (i+1) a).getD a 0) (i+1:Nat)) (oL i):=⟨_,rfl⟩
 have oI0:oI 0=oL i:=by rw [hoI];rfl
 have oIs:∀ k,oI (k+1)=better (oI k) ((walkN s (i+1) k).getD k 0) (i+1:Nat):=fun k=>by rw [hoI];exact Fw.fold_succ _ _ _
 have oIn:oI n=zDq s i (oL i):=by rw [hoI,hn];rfl
 clear hoI
 refine zBb n (fun k => ∃ M,ErrQ s M (oI k)) (fun k=>[(1,.ref 0 0),(2,.ref 1 0),(3,.ref 2 0),(4,wS (walkW s (i+1))),(13,.int .i64 n),(14,.int .i64 (i:Nat)),(5,.int .i64 (i:Nat)),(21,.int .i64 n),(22,.int .i64 (k:Nat))]) (fun k=>⟨[some (.cells [.int .i64 n,.slice (sgts s.sights) s.sights.length .unk]),some (.cells [.int .i64 0,.int .i64 0]),some (.cells [.int .i64 (oI k).1,.int .i64 (oI k).2])],0,[]⟩) ⟨M,by rw [oI0];exact hM⟩ rfl (by rw [oI0]) ?_
 rintro k hk ⟨M2,hM2⟩ I2 hI2
 by_cases hlt2:k<n
 rotate_left
 ·have k1:¬ (k:Int)<n:=by omega
  have e:k=n:=by omega
  subst e
  rw [oIn] at hM2 ⊢
  simp only [go_sem,l90_1,k1,decide_false,h4,zB,zD,zC,reduceIte,reduceCtorEq,zA]
  exact hI ⟨M2,hM2⟩
 have k1:(k:Int)<n:=by omega
 have k4:IntKind.i64.wrap ((k:Int)+1)=(k+1:Nat):=wrap64 (by omega)
 have hsq:=walkW_sq h (i:=i+1) (by omega)
 rw [← hn] at hsq
 have hwk:=zDw hsq hlt2
 have hrl:=hsq.getD hlt2
 rw [walkW_get s (i+1) (by omega)] at hwk hrl
 obtain ⟨v1,v2⟩:=walk_val h (i:=i+1) (a:=k) (v:=k) (by omega) (by omega) (by omega)
 have hb:=Lv.better_ok h hM2 (i:=i) (a:=k) (by omega) (by omega)
 have hI2:=hI2 hlt2 ⟨_,by rw [oIs];exact hb⟩
 rw [oIs] at hI2
 have gk:(walkN s (i+1) k)[k]? = some ((walkN s (i+1) k).getD k 0):=by rw [zG,zF (by omega)];rfl
 have xa:0≤(k:Int)∧(k:Int)<((walkW s (i+1)).length:Int):=by have:=hsq.1;omega
 have xb:0≤(k:Int)∧(k:Int)<((walkN s (i+1) k).length:Int):=by omega
 have d1:=hM2.den
 have d2:=hM2.num0
 clear hb hM2 hM start
 generalize oI k=o at *
 generalize (walkN s (i+1) k).getD k 0=v at *
 obtain ⟨p,q⟩:=o
 simp only at d1 d2
 simp only [go_sem,l90_1,k1,decide_true,xa,hwk,xb,zAy,gk,zZ,zAe,and_self,zB,zD,zC,reduceIte,reduceCtorEq,zA]
 by_cases g1:v > -far
 ·have g1':v > -1099511627776:=g1
  have v3:=v2 g1
  have m1:=mul_bd (r:=v) (b:=q) (by omega) (by omega)
  have m2:=mul_bd (r:=p) (b:=(i+1:Nat)) (by omega) (by omega)
  have w1:IntKind.i64.wrap (v * q)=v * q:=wrap64 (by omega)
  have w2:IntKind.i64.wrap (p * ((i+1:Nat):Int))=p * ((i+1:Nat):Int):=wrap64 (by omega)
  by_cases g2:v * q > p * ((i+1:Nat):Int)
  ·have hbt:better (p,q) v (i+1:Nat)=(v,((i+1:Nat):Int)):=if_pos ⟨g1,g2⟩
   rw [hbt] at hI2
   simp only [go_sem,g1',g2,decide_true,h4,w1,w2,zAd,AV.cells,AV.one,zK,zM,zJ,splice,zI,zH,and_self,k4,zB,zD,zC,reduceIte,reduceCtorEq,zA]
   exact hI2
  ·have hbt:better (p,q) v (i+1:Nat)=(p,q):=if_neg fun hh=>g2 hh.2
   rw [hbt] at hI2
   simp only [go_sem,g1',g2,decide_true,decide_false,h4,w1,w2,k4,zB,zD,zC,reduceIte,reduceCtorEq,zA]
   exact hI2
 ·have g1':¬ v > -1099511627776:=g1
  have hbt:better (p,q) v (i+1:Nat)=(p,q):=if_neg fun hh=>g1 hh.1
  rw [hbt] at hI2
  simp only [go_sem,g1',decide_false,h4,k4,zB,zD,zC,reduceIte,reduceCtorEq,zA]
  exact hI2
end Go.Av.Lx
end
section
set_option maxHeartbeats 2000000
namespace Go.Av.Lx
open Go Go.Av Go.Av.Tb Go.Av.Fx Go.Proofs
open Go.Lv (Sight Survey Sw Sv SightOk Stp errF evenB RedP)
open Go.Fw (Sq ent Bd Mat)
theorem kA_bnd (s:Survey) (V:Mat):(kA s V).bnd 0 0=true:=by simp [AV.bnd,bndL]
theorem known_even_pc (s:Survey) (h:Sw s) (he:s.sights=[]) (ds:List Bound) (hd:ds.length≤1000) (hok:∀ x∈ds,BOk (Lv.num s) x) {V:Mat} (hV:kn s ds=some V) (hsq:Sq (Lv.num s) V):PC Tryz.prog 94 [surA s,.slice (bnds ds) ds.length .unk] (.pure (kA s V)):=by
 refine PC.of_frz (known_run s h (by rw [he];simp) ds hd hok _ [] 0 [] (.inr ⟨he,rfl⟩) _ ?_ ?_) (by simp [bndL,AV.bnd]) (kA_bnd s V)
 ·intro h0
  rw [kn_eq h,hV] at h0;cases h0
 ·intro V' hV' A C t nt tk h3 hN
  rw [kn_eq h,hV] at hV'
  cases hV'
  refine ⟨_,rfl, ?_⟩
  rw [qL]
  exact kv_frz hsq h3 t
def evS (s:Survey):Survey:=⟨s.stations,[]⟩
theorem evS_sw {s:Survey} (h:Sw s):Sw (evS s):=⟨h.st,fun x hx=>by cases hx⟩
theorem least1_ac (s:Survey) (h:Sw s) (ds:List Bound) (hd:ds.length≤1000) (hok:∀ x∈ds,BOk (Lv.num s) x) {V:Mat} (hV:kn (evS s) ds=some V) (hsq:Sq (Lv.num s) V) (M:AV) (H:List (Option Blk)) (N:Nat) (toks:List Nat) (hM:Sub M (.slice (bnds ds) ds.length .unk))
  (i j k l:Nat) (hi:cellsAt H i=some [.int .i64 s.stations,.nilS]) (hj:cellsAt H j=some [M]) (hk:cellsAt H k=some (surC s)) (hl:cellsAt H l=some [.nilS]) (hkl:k≠l) :
  AC Tryz.prog 93 [.ref i 0,.ref j 0,.ref k 0,.ref l 0] ⟨H,N,toks⟩ fun e S'=>e=.ret (.tuple []) ∧ ∃ Hh W nt tk,S'=⟨Hh,nt,tk⟩∧cellsAt Hh l=some [W]∧(∀ q,q<H.length→q≠l→cellsAt Hh q=cellsAt H q)∧Own (ints ((List.range (Lv.num s)).map (lowAt V (Lv.num s)))) (Lv.num s) W nt tk:=by
 refine AC.run (Es_ok _ _) mix Tryz.func93 m93 rfl rfl rfl (zE rfl) ?_
 have hst:s.stations=(Lv.num s:Int):=by have:=h.st;show _=((s.stations.toNat:Nat):Int);omega
 have hn2:2≤Lv.num s∧Lv.num s≤8:=by have:=h.st;show 2≤s.stations.toNat∧s.stations.toNat≤8;omega
 have hkp:=known_even_pc (evS s) (evS_sw h) rfl ds hd hok hV hsq
 have cax:∀ X,cellsAt (H ++ X) k=some (surC s):=fun X=>zAo hk X
 have c1:=zAg H
 have c2:=fun x B=>zAs H x B
 simp only [go_sem,hi,hj,zB,zD,zC,reduceIte,reduceCtorEq,zA]
 refine zCh (E:=Es _ _) n94 hkp (SubL.cons (Sub.agg (SubL.cons (Sub.refl _) (SubL.cons Sub.nil (SubL.refl [])))) (SubL.cons hM (SubL.refl []))) ?_
 simp only [go_sem,c1,c2,zAd,AV.cells,AV.one,zK,zM,zJ,splice,zI,zH,and_self,cax,zB,zD,zC,reduceIte,reduceCtorEq,zA]
 obtain ⟨n,hn⟩:∃ n,Lv.num s=n:=⟨_,rfl⟩
 rw [hn] at hn2 hst hsq ⊢
 have hll:=zEk hl
 refine zAt (fun m ts' S' => ∃ a W nt tk Hh,a≤n∧m=n - a∧ts'=[(3,.ref l 0),(4,.ref H.length 0),(11,.int .i64 s.stations),(12,.int .i64 (a:Nat))]∧S'=⟨Hh,nt,tk⟩∧cellsAt Hh l=some [W]∧cellsAt Hh H.length=some (kvC (evS s) (wS V))∧(∀ q,q<H.length→q≠l→cellsAt Hh q=cellsAt H q)∧Own (ints ((List.range a).map (lowAt V n))) a W nt tk) n ⟨0,.nilS,N,toks,_,qM _,rfl,rfl,rfl,zAo hl _,c1 _,fun q hq _ => ?_,Own.nil _ _⟩ ?_
 ·unfold cellsAt;rw [qK hq]
 rintro m ts' S' ⟨a,W,nt,tk,Hh,ha,rfl,rfl,rfl,d1,d2,d3,ho⟩
 by_cases hlt:a<n
 ·have h1:(a:Int)<s.stations:=by omega
  have h4:IntKind.i64.wrap ((a:Int)+1)=(a+1:Nat):=wrap64 (by omega)
  have hb:=baseG_lt V hlt
  have hx:=zEk d1
  have hs:∀ B,setH Hh l (.cells B)=setH Hh l (.cells B):=fun _=>rfl
  simp only [go_sem,l93_0,h1,decide_true,d2,zB,zD,zC,reduceIte,reduceCtorEq,zA]
  refine zCh (E:=Es _ _) n87 (base_pc (evS s) hst (by omega) hsq hlt) (SubL.refl _) ?_
  simp only [go_sem,d1,d2,zB,zD,zC,reduceIte,reduceCtorEq,zA]
  refine zBu (E:=Es _ _) n95 (least_pc (evS s) hsq hb hlt) (SubL.refl _) ?_
  simp only [go_sem,d1,zAa,zB,zD,zC,reduceIte,reduceCtorEq,zA]
  refine zDt (lx:=[.int .i64 (IntKind.i64.wrap (0 - ent V a (baseG V n a)))]) rowInts ho (by simp) rfl (by decide) rfl (by omega) fun W' tk' g => ?_
  obtain ⟨q1,q2⟩:=g.own.cells
  simp only [go_sem,d1,q1,q2,zAd,zK,zM,zJ,splice,and_self,zI,zH,h4,zB,zD,zC,reduceIte,reduceCtorEq,zA]
  refine zAh (n - (a+1)) (by omega) ⟨a+1,W',nt+1,tk',_,hlt,rfl,rfl,rfl,cells_self hx, ?_,fun q hq hne => ?_, ?_⟩
  ·rw [zCd hx (by omega)];exact d2
  ·rw [zCd hx hne];exact d3 q hq hne
  ·have:=g.own
   rw [show [AV.int .i64 (IntKind.i64.wrap (0 - ent V a (baseG V n a)))]=ints [lowAt V n a] from rfl,ints_app] at this
   rw [yI,qX]
   exact this
 ·have h1:¬ (a:Int)<s.stations:=by omega
  have e:a=n:=by omega
  subst e
  simp only [go_sem,l93_0,h1,decide_false,Tryz.f93,zB,zD,zC,reduceIte,reduceCtorEq,zA]
  exact ⟨rfl,Hh,W,nt,tk,rfl,d1,d3,ho⟩
def leB (d o:Int) (x:Sight):List Bound:=sB ⟨x.frm,x.to,x.rise * d,o⟩
theorem leB_bd {n:Int} {x:Sight} (hx:SightOk n x) {d o:Int} (hd:1≤d∧d≤8) (ho:0≤o∧o≤8000):(leB d o x).map bd=Lv.sightD d o x:=by
 have:=rise_by hx.rise hd
 unfold leB sB Lv.sightD
 simp only [yU,List.map_nil,bd]
 rw [wrap64 (by omega),wrap64 (by omega)]
def lesB (s:Survey) (d o:Int) (l:List Sight):List Bound:=l.flatMap (leB d o)
theorem lesB_bd {s:Survey} (h:Sw s) {d o:Int} (hd:1≤d∧d≤8) (ho:0≤o∧o≤8000):(lesB s d o s.sights).map bd=evenB s d o:=by
 unfold lesB evenB
 rw [List.map_flatMap]
 have:∀ l:List Sight,(∀ x∈l,SightOk s.stations x)→l.flatMap (fun a=>(leB d o a).map bd)=l.flatMap (Lv.sightD d o):=fun l hl=>by
  induction l with
  | nil=>rfl
  | cons x l ih=>rw [yB,yB,leB_bd (hl x zP) hd ho,ih fun y hy=>hl y (zQ _ hy)]
 exact this _ h.sights
theorem lesB_len (s:Survey) (d o:Int) (l:List Sight):(lesB s d o l).length=l.length * 2:=by
 unfold lesB
 induction l with
 | nil=>rfl
 | cons x l ih=>rw [yB,zX,ih,qA];simp [leB,sB];omega
theorem lesB_ok {s:Survey} (h:Sw s) {d o:Int} (hd:1≤d∧d≤8) (ho:0≤o∧o≤8000):∀ b∈lesB s d o s.sights,BOk (Lv.num s) b:=fun b hb=>by
 obtain ⟨x,hx,hb⟩:=List.mem_flatMap.1 hb
 have hx:=h.sights x hx
 have a:=rise_by hx.rise hd
 have h1:=hx.frm;have h2:=hx.to
 have h3:=h.st
 have e:((Lv.num s:Nat):Int)=s.stations:=by show ((s.stations.toNat:Nat):Int)=_;omega
 simp only [leB,sB,yJ,qZ,or_false] at hb
 rw [wrap64 (by omega),wrap64 (by omega)] at hb
 rcases hb with rfl | rfl
 ·exact ⟨by rw [e];exact h1,by rw [e];exact h2,by show -20000≤x.rise * d+o∧x.rise * d+o≤20000;omega⟩
 ·exact ⟨by rw [e];exact h2,by rw [e];exact h1,by show -20000≤o - x.rise * d∧o - x.rise * d≤20000;omega⟩
def evenV (s:Survey):Mat:=(Lv.clo (Lv.num s) (evenB s (errF s).2 (errF s).1)).getD []
theorem evenV_eq {s:Survey} (h:Sw s):Lv.clo (Lv.num s) (evenB s (errF s).2 (errF s).1)=some (evenV s):=by
 obtain ⟨V,hV⟩:=Lv.even_some h (Lv.err_ok h)
 unfold evenV
 rw [hV];rfl
def evenL (s:Survey):List Int:=(List.range (Lv.num s)).map (lowAt (evenV s) (Lv.num s))
def leastA (s:Survey):AV:=if zAp s=true then .tuple [frA (errF s),sl (evenL s),.int .i64 0] else .tuple [frA (0,0),.nilS,.int .i64 2]
theorem leastA_bnd (s:Survey):(leastA s).bnd 0 0=true:=by
 unfold leastA
 split
 ·simp [AV.bnd,bndL]
 ·rfl
def lone (i:Nat) (l:List AV):St:=⟨List.replicate i none ++ [some (.cells l)],0,[]⟩
theorem lone_at (i:Nat) (l:List AV):cellsAt (lone i l).heap i=some l:=by
 unfold cellsAt lone
 have:(List.replicate i (none:Option Blk) ++ [some (Blk.cells l)])[i]? = some (some (.cells l)):=by
  rw [zS (by simp)];simp
 show (match (List.replicate i (none:Option Blk) ++ [some (Blk.cells l)])[i]? with | some (some (.cells l))=>some l | _=>none)=_
 rw [this]
theorem lone_sees {i:Nat} {l:List AV} {H:List (Option Blk)} (h:cellsAt H i=some l):∀ (p:Nat) (B:Blk),(lone i l).heap[p]? = some (some B)→p∈[i]∧H[p]? = some (some B):=by
 intro p B e
 unfold lone at e
 simp only [List.getElem?_append,List.length_replicate,qW] at e
 split at e
 ·cases e
 ·rename_i hp
  by_cases h0:p=i
  ·subst h0
   simp at e
   subst e
   refine ⟨by simp, ?_⟩
   unfold cellsAt at h
   revert h
   split
   ·intro h;cases h;assumption
   ·intro h;cases h
  ·rw [zO (by simp;omega)] at e
   cases e
theorem Least_pc (s:Survey) (hl:okL s.sights.length):PC Tryz.prog 32 [surA s] (.pure (leastA s)):=by
 refine PC.of_frz (AC.run (E_ok _) mix Tryz.func32 m32 rfl rfl rfl (zE rfl) ?_) (by simp [bndL,AV.bnd]) (leastA_bnd s)
 unfold leastA
 simp only [go_sem,boxA,zB,zD,zC,reduceIte,reduceCtorEq,zA]
 refine cp n89 (zBs s hl) (SubL.refl _) ?_
 cases hs:zAp s
 ·simp only [go_sem,zAj,qD,zAd,AV.cells,AV.one,zK,zM,zJ,splice,zI,zH,and_self,Tryz.f32,zB,zD,zC,reduceIte,reduceCtorEq,zA]
  exact ⟨_,rfl,.same _⟩
 have hv:=zDs.1 hs
 have h:=hv.toSw
 have hr:=Lv.err_ok h
 obtain ⟨b1,b2,b3⟩:=Lv.err_bd h hr
 have hbd0:buildA T 24 [(0,.int .i64 s.stations)]=some (.agg [.int .i64 s.stations,.nilS]):=rfl
 simp only [go_sem,zAj,zY,zB,zD,zC,reduceIte,reduceCtorEq,zA]
 refine cp n90 (least_err_pc s h (by have:=hv.many;omega)) (SubL.refl _) ?_
 obtain ⟨o,ho⟩:∃ o,errF s=o:=⟨_,rfl⟩
 rw [ho] at b1 b2 b3 ⊢
 obtain ⟨p,q⟩:=o
 simp only at b1 b2 b3
 simp only [go_sem,hbd0,zAd,AV.cells,AV.one,zK,zM,zJ,splice,zI,zH,and_self,zAa,zB,zD,zC,reduceIte,reduceCtorEq,zA]
 refine zAt (fun m ts' S' => ∃ k M nt tk X,k≤s.sights.length∧m=s.sights.length - k∧ts'=[(1,.ref 0 0),(2,.ref 1 0),(5,.ref 2 0),(6,.ref 3 0),(7,.ref 4 0),(22,.slice (sgts s.sights) s.sights.length .unk),(23,.int .i64 s.sights.length),(24,.int .i64 (k:Nat))]∧S'=⟨[some (.cells (surC s)),some (.cells [.int .i64 0,.int .i64 0]),some (.cells [.int .i64 p,.int .i64 q]),some (.cells [.int .i64 s.stations,.nilS]),some (.cells [M])] ++ X,nt,tk⟩∧MoreA (lesB s q p (s.sights.take k)) M ⟨[],nt,tk⟩ nt) s.sights.length ⟨0,.nilS,0,[],[],qM _,rfl,rfl,rfl,.inl ⟨rfl,by simp [lesB]⟩⟩ ?_
 rintro m ts' S' ⟨k,M,nt,tk,X,hk,rfl,rfl,rfl,hM⟩
 have hM1:M.cells=[M]∧M.one=true:=by
  rcases hM with ⟨rfl,_⟩ | ⟨k,rfl,_,_⟩
  ·exact ⟨rfl,rfl⟩
  ·exact ⟨rfl,rfl⟩
 have c1:∀ a b c d e l,cellsAt (a :: b :: c :: d :: e :: (X ++ [some (.cells l)])) (X.length+1+1+1+1+1)=some l:=fun a b c d e l=>zAg (a :: b :: c :: d :: e :: X) l
 have c2:∀ a b c d e x B,setH (a :: b :: c :: d :: e :: (X ++ [x])) (X.length+1+1+1+1+1) B=a :: b :: c :: d :: e :: (X ++ [some B]):=fun a b c d e x B=>zAs (a :: b :: c :: d :: e :: X) x B
 by_cases hlt:k<s.sights.length
 ·have k1:(k:Int)<s.sights.length:=by omega
  have k2:0≤(k:Int)∧(k:Int)<s.sights.length:=by omega
  have k3:k * 4+4≤(sgts s.sights).length:=by rw [zBf];omega
  have k4:IntKind.i64.wrap ((k:Int)+1)=(k+1:Nat):=wrap64 (by omega)
  have k5:=zCi s.sights k hlt
  have hx:=h.sights _ (zT hlt)
  have hm14:=hv.many
  have hlen2:(lesB s q p (s.sights.take k)).length+(leB q p s.sights[k]).length≤1000000:=by rw [lesB_len,yO];simp [leB,sB];omega
  have hlb:lesB s q p (s.sights.take (k+1))=lesB s q p (s.sights.take k) ++ leB q p s.sights[k]:=by
   rw [qH hlt];unfold lesB;rw [List.flatMap_append];simp
  generalize s.sights[k]=x at *
  have w0:=rise_by hx.rise b1
  have w1:IntKind.i64.wrap (x.rise * q)=x.rise * q:=wrap64 (by omega)
  have hbd:∀ a b c d:Int,buildA T 85 [(0,.int .i64 a),(1,.int .i64 b),(2,.int .i64 c),(3,.int .i64 d)]=some (.agg [.int .i64 a,.int .i64 b,.int .i64 c,.int .i64 d]):=fun _ _ _ _=>rfl
  simp only [go_sem,l32_0,k1,decide_true,k2,k3,k5,zAe,and_self,c1,c2,zAd,AV.cells,AV.one,zK,zM,zJ,splice,zI,zH,w1,hbd,zB,zD,zC,reduceIte,reduceCtorEq,zA]
  refine qp n91 (zDx ⟨x.frm,x.to,x.rise * q,p⟩) (SubL.refl _) ?_
  simp only [go_sem,zAa,zB,zD,zC,reduceIte,reduceCtorEq,zA]
  refine MoreA.app (S:=⟨_,nt,tk⟩) (l:=leB q p x) (N:=nt) (hM.mono (S':=⟨some (.cells (surC s)) :: some (.cells [.int .i64 0,.int .i64 0]) :: some (.cells [.int .i64 p,.int .i64 q]) :: some (.cells [.int .i64 s.stations,.nilS]) :: some (.cells [M]) :: (X ++ [some (.cells (sgtC x))]),nt,tk⟩) (fun k hk _=>hk) (zN _)) (zN _) (by simp [leB,sB]) hlen2 fun M3 tk3 hM3 => ?_
  have hM3':M3.cells=[M3]∧M3.one=true:=by
   rcases hM3 with ⟨rfl,_⟩ | ⟨k,rfl,_,_⟩
   ·exact ⟨rfl,rfl⟩
   ·exact ⟨rfl,rfl⟩
  obtain ⟨q1,q2⟩:=hM3'
  simp only [go_sem,q1,q2,zAd,zK,zM,zJ,splice,and_self,zI,zH,k4,zB,zD,zC,reduceIte,reduceCtorEq,zA]
  refine zAh (s.sights.length - (k+1)) (by omega) ⟨k+1,M3,nt+1,tk3,_,hlt,rfl,rfl,rfl, ?_⟩
  rw [hlb];exact hM3.mono (fun k hk _=>hk) (zN _)
 have k1:¬ (k:Int)<s.sights.length:=by omega
 have ek:k=s.sights.length:=by omega
 subst ek
 rw [yH] at hM
 have hV:=evenV_eq h
 have hkn:kn (evS s) (lesB s q p s.sights)=some (evenV s):=by
  unfold kn
  rw [lesB_bd h b1 ⟨b2,b3⟩]
  rw [ho] at hV
  show Lv.clo (Lv.num s) (evenB s q p ++ [])=_
  rw [List.append_nil];exact hV
 have hsq:Sq (Lv.num s) (evenV s):=(Lv.clo_shape (Lv.even_oks h (Lv.err_bd h hr).1 (Lv.err_bd h hr).2) hV).sq
 have hsub:Sub M (.slice (bnds (lesB s q p s.sights)) (lesB s q p s.sights).length .unk):=by
  rcases hM with ⟨rfl,e⟩ | ⟨k,rfl,_,_⟩
  ·rw [e];exact Sub.nil
  ·exact Sub.unk _ _ _
 simp only [go_sem,l32_0,k1,decide_false,zB,zD,zC,reduceIte,reduceCtorEq,zA]
 obtain ⟨S0,hS0⟩:∃ S0:List (Option Blk),some (.cells (surC s)) :: some (.cells [.int .i64 0,.int .i64 0]) :: some (.cells [.int .i64 p,.int .i64 q]) :: some (.cells [.int .i64 s.stations,.nilS]) :: some (.cells [M]) :: (X ++ [some (.cells [.nilS])])=S0:=⟨_,rfl⟩
 have e0:cellsAt S0 0=some (surC s):=by rw [← hS0];rfl
 have e1:cellsAt S0 1=some [.int .i64 0,.int .i64 0]:=by rw [← hS0];rfl
 have e2:cellsAt S0 2=some [.int .i64 p,.int .i64 q]:=by rw [← hS0];rfl
 have e3:cellsAt S0 3=some [.int .i64 s.stations,.nilS]:=by rw [← hS0];rfl
 have e4:cellsAt S0 4=some [M]:=by rw [← hS0];rfl
 have e5:cellsAt S0 (X.length+1+1+1+1+1)=some [.nilS]:=by rw [← hS0];exact c1 _ _ _ _ _ _
 have hl0:S0.length=X.length+6:=by rw [← hS0];simp
 rw [hS0]
 have hd:(lesB s q p s.sights).length≤1000:=by rw [lesB_len];have:=hv.many;omega
 refine zBg (E:=E _) (R:=fun e S'=>e=.ret (.int .i64 0) ∧ ∃ Hh W nt tk,S'=⟨Hh,nt,tk⟩∧cellsAt Hh (X.length+1+1+1+1+1)=some [W]∧cellsAt Hh 1=some [.int .i64 0,.int .i64 0]∧cellsAt Hh 2=some [.int .i64 p,.int .i64 q]∧Own (ints (evenL s)) (Lv.num s) W nt tk) n92 (try_ac (S:=⟨S0,nt,tk⟩) n93 (least1_ac s h (lesB s q p s.sights) hd (lesB_ok h b1 ⟨b2,b3⟩) hkn hsq M _ nt tk hsub 3 4 0 (X.length+1+1+1+1+1) (zAo e3 _) (zAo e4 _) (zAo e0 _) (zAo e5 _) (by omega)) ?_ ?_) ?_ ?_
 ·rintro v S' ⟨e,Hh,W,nt',tk',rfl,d1,d3,hO⟩
  refine ⟨?_,rfl,Hh,W,nt',tk',rfl,d1, ?_, ?_,hO⟩
  ·rw [d3 S0.length (by simp) (by omega)]
   exact zAg _ _
  ·rw [d3 1 (by simp;omega) (by omega)];exact zAo e1 _
  ·rw [d3 2 (by simp;omega) (by omega)];exact zAo e2 _
 ·rintro v S' ⟨e,_⟩
  cases e
 ·rintro v S' ⟨e,Hh,W,nt',tk',rfl,d1,d2,d3,hO⟩
  cases e
  have hlt1:=zEk d2
  have d1':∀ B,cellsAt (setH Hh 1 B) (X.length+1+1+1+1+1)=some [W]:=fun B=>by rw [zCd hlt1 (by omega)];exact d1
  have d2':∀ B,cellsAt (setH Hh 1 (.cells B)) 1=some B:=fun B=>cells_self hlt1
  simp only [go_sem,d1,d2,d3,zB,zD,zC,reduceIte,reduceCtorEq,zA]
  have hlt2:=zEk d1
  refine ⟨[X.length+1+1+1+1+1],fun i hi=>by simp only [yZ] at hi;subst hi;exact hlt2, ?_⟩
  simp only [go_sem,preZ,QOpZ,guardM,isW,d1,d2,d3,zB,zD,zC,reduceIte,reduceCtorEq,zA]
  refine ⟨rfl,trivial, ?_⟩
  refine ⟨lone _ _,_,lone_sees d1,by simp only [go_sem,lone_at,zB,zD,zC,reduceIte,reduceCtorEq,zA];all_goals rfl,rfl, ?_⟩
  simp only [yV,yP,Res.app]
  simp only [go_sem,d1,d2,d3,d1',d2',zAd,AV.cells,AV.one,zK,zM,zJ,splice,and_self,zI,zH,Res.app,Res.ok,zB,zD,zC,reduceIte,reduceCtorEq,zA]
  refine ⟨fun i B v e=>by cases e;simp only [yZ];omega, ?_⟩
  simp only [resA,Tryz.f32]
  simp only [go_sem,d1,d2',d1',zB,zD,zC,reduceIte,reduceCtorEq,zA]
  refine ⟨_,rfl,frz_three (.same _) ?_ (.same _)⟩
  have:=hO.frz (setH Hh 1 (.cells [.int .i64 p,.int .i64 q]))
  have hlen:(evenL s).length=Lv.num s:=by simp [evenL]
  rw [← hlen] at this
  exact this
 ·intro v S' h
  cases h.1
end Go.Av.Lx
end
section
set_option maxHeartbeats 2000000
namespace Go.Av.Lx
open Go Go.Av Go.Av.Tb Go.Av.Fx Go.Proofs
open Go.Lv (Sight Survey Sw Sv SightOk Stp bgS enS riseS stpD chainB closedB sightAt flip)
open Go.Fw (Sq ent Bd Mat)
theorem un_neg (n:Int):unA .neg (.int .i64 n)=some (.int .i64 (IntKind.i64.wrap (0 - n))):=rfl
@[go_sem] theorem bd_stp (a:Int) (b:Bool):buildA T 127 [(0,.int .i64 a),(1,.bool b)]=some (.agg [.int .i64 a,.bool b]):=rfl
theorem zDn (l:List Sight) (k j:Nat) (h:k<l.length) (hj:j<4):(sgts l)[k * 4+j]? = (sgtC l[k])[j]?:=by
 rw [← zCi l k h,List.getElem?_take_of_lt hj,List.getElem?_drop]
theorem zDo {s:Survey} {k:Nat} (h:k<s.sights.length):sightAt s k=s.sights[k]:=by
 unfold sightAt
 rw [qR,zG,zF h];rfl
abbrev InS (s:Survey) (x:Stp):Prop:=0≤x.sight∧x.sight<s.sights.length
theorem zFq (s:Survey) (x:Stp) (hx:InS s x):PC Tryz.prog 154 [surA s,.agg (stpC x)] (.pure (.int .i64 (bgS s x))):=by
 refine PC.of_empty (AC.run (E_ok _) mix Tryz.func154 m154 rfl rfl rfl (zE rfl) ?_) (by simp [bndL,AV.bnd]) rfl
 obtain ⟨i,b⟩:=x
 obtain ⟨k,rfl⟩:∃ k:Nat,i=k:=⟨i.toNat,by have:=hx.1;simp only at this;omega⟩
 have h2:(k:Int)<s.sights.length:=hx.2
 have hk:k<s.sights.length:=by omega
 have k2:0≤(k:Int)∧(k:Int)<s.sights.length:=by omega
 have g0:(sgts s.sights)[k * 4+0]? = some (.int .i64 s.sights[k].frm):=zDn s.sights k 0 hk (by decide)
 have g1:(sgts s.sights)[k * 4+1]? = some (.int .i64 s.sights[k].to):=zDn s.sights k 1 hk (by decide)
 unfold bgS
 rw [zDo hk]
 cases b
 ·simp only [go_sem,boxA,k2,zAe,and_self,g0,Tryz.f154,zB,zD,zC,reduceIte,reduceCtorEq,zA]
  all_goals rfl
 ·simp only [go_sem,boxA,k2,zAe,and_self,g1,Tryz.f154,zB,zD,zC,reduceIte,reduceCtorEq,zA]
  all_goals rfl
theorem enS_flip (s:Survey) (i:Int) (b:Bool):bgS s ⟨i,!b⟩=enS s ⟨i,b⟩:=by unfold bgS enS;cases b <;> rfl
theorem zEw (s:Survey) (x:Stp) (hx:InS s x):PC Tryz.prog 153 [surA s,.agg (stpC x)] (.pure (.int .i64 (enS s x))):=by
 refine PC.of_empty (AC.run (E_ok _) mix Tryz.func153 m153 rfl rfl rfl (zE rfl) ?_) (by simp [bndL,AV.bnd]) rfl
 obtain ⟨i,b⟩:=x
 have h:=zFq s ⟨i,!b⟩ hx
 rw [enS_flip] at h
 simp only [go_sem,boxA,zAj,zB,zD,zC,reduceIte,reduceCtorEq,zA]
 refine cp n154 h (SubL.refl _) ?_
 simp only [go_sem,Tryz.f153,zB,zD,zC,reduceIte,reduceCtorEq,zA]
 all_goals rfl
theorem rise_pc (s:Survey) (hs:Sw s) (x:Stp) (hx:InS s x):PC Tryz.prog 139 [surA s,.agg (stpC x)] (.pure (.int .i64 (riseS s x))):=by
 refine PC.of_empty (AC.run (E_ok _) mix Tryz.func139 m139 rfl rfl rfl (zE rfl) ?_) (by simp [bndL,AV.bnd]) rfl
 obtain ⟨i,b⟩:=x
 obtain ⟨k,rfl⟩:∃ k:Nat,i=k:=⟨i.toNat,by have:=hx.1;simp only at this;omega⟩
 have h2:(k:Int)<s.sights.length:=hx.2
 have hk:k<s.sights.length:=by omega
 have k2:0≤(k:Int)∧(k:Int)<s.sights.length:=by omega
 have g0:(sgts s.sights)[k * 4+2]? = some (.int .i64 s.sights[k].rise):=zDn s.sights k 2 hk (by decide)
 have hb:=(hs.sights _ (zT hk)).rise
 have w:IntKind.i64.wrap (0 - s.sights[k].rise) = -s.sights[k].rise:=by rw [Int.zero_sub];exact wrap64 (by omega)
 unfold riseS
 rw [zDo hk]
 cases b
 ·simp only [go_sem,boxA,k2,zAe,and_self,g0,Tryz.f139,zB,zD,zC,reduceIte,reduceCtorEq,zA]
  all_goals rfl
 ·simp only [go_sem,boxA,k2,zAe,and_self,g0,un_neg,w,Tryz.f139,zB,zD,zC,reduceIte,reduceCtorEq,zA]
  all_goals rfl
theorem zFr (s:Survey) (x:Stp) (hx:InS s x):PC Tryz.prog 137 [surA s,.agg (stpC x)] (.pure (.int .i64 (bgS s x))):=by
 refine PC.of_empty (AC.run (E_ok _) mix Tryz.func137 m137 rfl rfl rfl (zE rfl) ?_) (by simp [bndL,AV.bnd]) rfl
 obtain ⟨i,b⟩:=x
 obtain ⟨k,rfl⟩:∃ k:Nat,i=k:=⟨i.toNat,by have:=hx.1;simp only at this;omega⟩
 have h2:(k:Int)<s.sights.length:=hx.2
 have hk:k<s.sights.length:=by omega
 have k2:0≤(k:Int)∧(k:Int)<s.sights.length:=by omega
 have g0:(sgts s.sights)[k * 4+0]? = some (.int .i64 s.sights[k].frm):=zDn s.sights k 0 hk (by decide)
 have g1:(sgts s.sights)[k * 4+1]? = some (.int .i64 s.sights[k].to):=zDn s.sights k 1 hk (by decide)
 unfold bgS
 rw [zDo hk]
 cases b
 ·simp only [go_sem,boxA,k2,zAe,and_self,g0,Tryz.f137,zB,zD,zC,reduceIte,reduceCtorEq,zA]
  all_goals rfl
 ·simp only [go_sem,boxA,k2,zAe,and_self,g1,Tryz.f137,zB,zD,zC,reduceIte,reduceCtorEq,zA]
  all_goals rfl
theorem ends_pc (s:Survey) (x:Stp) (hx:InS s x):PC Tryz.prog 136 [surA s,.agg (stpC x)] (.pure (.int .i64 (enS s x))):=by
 refine PC.of_empty (AC.run (E_ok _) mix Tryz.func136 m136 rfl rfl rfl (zE rfl) ?_) (by simp [bndL,AV.bnd]) rfl
 obtain ⟨i,b⟩:=x
 have h:=zFr s ⟨i,!b⟩ hx
 rw [enS_flip] at h
 simp only [go_sem,boxA,zAj,zAd,AV.cells,AV.one,zK,zM,zJ,splice,zI,zH,and_self,zB,zD,zC,reduceIte,reduceCtorEq,zA]
 refine cp n137 h (SubL.refl _) ?_
 simp only [go_sem,Tryz.f136,zB,zD,zC,reduceIte,reduceCtorEq,zA]
 all_goals rfl
def upSt (s:Survey) (x:Stp):Int:=(Lv.stepB s x).m
theorem rises_pc (s:Survey) (hs:Sw s) (x:Stp) (hx:InS s x):PC Tryz.prog 135 [surA s,.agg (stpC x)] (.pure (.int .i64 (upSt s x))):=by
 refine PC.of_empty (AC.run (E_ok _) mix Tryz.func135 m135 rfl rfl rfl (zE rfl) ?_) (by simp [bndL,AV.bnd]) rfl
 obtain ⟨i,b⟩:=x
 obtain ⟨k,rfl⟩:∃ k:Nat,i=k:=⟨i.toNat,by have:=hx.1;simp only at this;omega⟩
 have h2:(k:Int)<s.sights.length:=hx.2
 have hk:k<s.sights.length:=by omega
 have k2:0≤(k:Int)∧(k:Int)<s.sights.length:=by omega
 have k3:k * 4+4≤(sgts s.sights).length:=by rw [zBf];omega
 have k5:=zCi s.sights k hk
 have hso:=hs.sights _ (zT hk)
 have hb:=hso.rise
 have hb2:=hso.off
 have w1:IntKind.i64.wrap (s.sights[k].rise+s.sights[k].off)=s.sights[k].rise+s.sights[k].off:=wrap64 (by omega)
 have w2:IntKind.i64.wrap (s.sights[k].off - s.sights[k].rise)=s.sights[k].off - s.sights[k].rise:=wrap64 (by omega)
 have hB:=zDx s.sights[k]
 have z0:(0:Int)≤0∧(0:Int)<((2:Nat):Int):=by decide
 have z1:(0:Int)≤1∧(1:Int)<((2:Nat):Int):=by decide
 unfold upSt Lv.stepB Lv.stepG
 rw [zDo hk]
 unfold Lv.upS Lv.downS
 unfold sB bnds at hB
 rw [w1,w2] at hB
 generalize s.sights[k]=y at *
 simp only [go_sem,boxA,k2,k3,k5,zAe,and_self,zB,zD,zC,reduceIte,reduceCtorEq,zA]
 have hB':PC Tryz.prog 91 [.agg (sgtC y)] (.pure (.slice [.int .i64 y.frm,.int .i64 y.to,.int .i64 (y.rise+y.off),.int .i64 y.to,.int .i64 y.frm,.int .i64 (y.off - y.rise)] 2 .exact)):=hB
 refine cp n91 hB' (SubL.refl _) ?_
 cases b
 ·simp only [go_sem,z0,Int.toNat_zero,Nat.zero_mul,Tryz.f135,zB,zD,zC,reduceIte,reduceCtorEq,zA]
  all_goals rfl
 ·simp only [go_sem,z1,Int.toNat_one,Nat.one_mul,Tryz.f135,zB,zD,zC,reduceIte,reduceCtorEq,zA]
  all_goals rfl
theorem zEl {s:Survey} {l:List Stp}:chainB s l=true ↔ ∀ i,i<l.length→(i=0∨bgS s (l.getD i stpD)=enS s (l.getD (i - 1) stpD)) ∧ ∀ k,k<i→enS s (l.getD k stpD)≠enS s (l.getD i stpD):=by
 unfold chainB
 simp only [yG,List.mem_range,zU,Bool.or_eq_true,decide_eq_true_eq,yR,decide_eq_false_iff_not]
theorem zBq {l:List Stp} {k:Nat} (h:k<l.length):l.getD k stpD=l[k]:=by rw [zG,zF h];rfl
theorem chain_pc (s:Survey) (l:List Stp) (hl:l.length≤100) (hin:Lv.StepsIn s l):PC Tryz.prog 152 [surA s,stpsA l] (.pure (.bool (chainB s l))):=by
 refine PC.of_empty (AC.run (E_ok _) mix Tryz.func152 m152 rfl rfl rfl (zE rfl) ?_) (by simp [bndL,AV.bnd]) rfl
 simp only [go_sem,boxA,zB,zD,zC,reduceIte,reduceCtorEq,zA]
 refine zBb l.length (fun i => ∀ j,j<i→(j=0∨bgS s (l.getD j stpD)=enS s (l.getD (j - 1) stpD)) ∧ ∀ k,k<j→enS s (l.getD k stpD)≠enS s (l.getD j stpD)) (fun k=>[(1,stpsA l),(2,.ref 0 0),(5,.int .i64 (k:Nat))]) (fun _=>⟨[some (.cells (surC s))],0,[]⟩) (fun i hi=>absurd hi (qS _)) rfl rfl ?_
 intro i hi hP I hI
 by_cases hlt:i<l.length
 rotate_left
 ·have h1:¬ (i:Int)<l.length:=by omega
  have hc:chainB s l=true:=zEl.2 fun j hj=>hP j (by omega)
  simp only [go_sem,l152_0,zAa,h1,decide_false,Tryz.f152,zB,zD,zC,reduceIte,reduceCtorEq,zA]
  rw [hc]
 have h1:(i:Int)<l.length:=by omega
 have x1:0≤(i:Int)∧(i:Int)<l.length:=by omega
 have h4:IntKind.i64.wrap ((i:Int)+1)=(i+1:Nat):=wrap64 (by omega)
 have k1:i * 2+2≤(stpsC l).length:=by rw [zAv];omega
 have g1:=zBt l i hlt
 have e1:=zBq hlt
 have hini:=hin _ (zT hlt)
 have hfail:¬ (i=0∨bgS s (l.getD i stpD)=enS s (l.getD (i - 1) stpD))→chainB s l=false:=fun h=>by
  cases hc:chainB s l with
  | false=>rfl
  | true=>exact absurd (zEl.1 hc i hlt).1 h
 rcases (show i=0∨(0<i∧bgS s (l.getD i stpD)=enS s (l.getD (i - 1) stpD))∨(0<i ∧ ¬ bgS s (l.getD i stpD)=enS s (l.getD (i - 1) stpD)) by
  by_cases e:bgS s (l.getD i stpD)=enS s (l.getD (i - 1) stpD)
  ·rcases Nat.eq_zero_or_pos i with h | h
   ·exact .inl h
   ·exact .inr (.inl ⟨h,e⟩)
  ·rcases Nat.eq_zero_or_pos i with h | h
   ·exact .inl h
   ·exact .inr (.inr ⟨h,e⟩)) with h0 | ⟨h0,he⟩ | ⟨h0,he⟩
 rotate_left 2
 ·have hd0:(i:Int) > 0:=by omega
  have w:IntKind.i64.wrap ((i:Int) - 1)=(i - 1:Nat):=by rw [show (i:Int) - 1=((i - 1:Nat):Int) by omega];exact wrap64 (by omega)
  have x2:0≤((i - 1:Nat):Int)∧((i - 1:Nat):Int)<l.length:=by omega
  have hlt2:i - 1<l.length:=by omega
  have k2:(i - 1) * 2+2≤(stpsC l).length:=by rw [zAv];omega
  have g2:=zBt l (i - 1) hlt2
  have e2:=zBq hlt2
  have hd:decide (bgS s l[i]≠enS s l[i - 1])=true:=decide_eq_true (by rw [e1,e2] at he;exact he)
  simp only [go_sem,l152_0,zAa,h1,hd0,decide_true,x1,k1,g1,zAe,and_self,zB,zD,zC,reduceIte,reduceCtorEq,zA]
  refine qp n154 (zFq s l[i] hini) (SubL.refl _) ?_
  simp only [go_sem,w,x2,k2,g2,zAe,and_self,zB,zD,zC,reduceIte,reduceCtorEq,zA]
  refine cp n153 (zEw s l[i - 1] (hin _ (zT hlt2))) (SubL.refl _) ?_
  simp only [go_sem,hd,Tryz.f152,zB,zD,zC,reduceIte,reduceCtorEq,zA]
  rw [hfail (by omega)]
 have hd0:¬ (i:Int) > 0:=by omega
 have hcnd:i=0∨bgS s (l.getD i stpD)=enS s (l.getD (i - 1) stpD):=.inl h0
 simp only [go_sem,l152_0,zAa,h1,hd0,decide_true,decide_false,zB,zD,zC,reduceIte,reduceCtorEq,zA]
 rotate_left
 have hd0:(i:Int) > 0:=by omega
 have hcnd:i=0∨bgS s (l.getD i stpD)=enS s (l.getD (i - 1) stpD):=.inr he
 have w:IntKind.i64.wrap ((i:Int) - 1)=(i - 1:Nat):=by rw [show (i:Int) - 1=((i - 1:Nat):Int) by omega];exact wrap64 (by omega)
 have x2:0≤((i - 1:Nat):Int)∧((i - 1:Nat):Int)<l.length:=by omega
 have hlt2:i - 1<l.length:=by omega
 have k2:(i - 1) * 2+2≤(stpsC l).length:=by rw [zAv];omega
 have g2:=zBt l (i - 1) hlt2
 have e2:=zBq hlt2
 have hd:decide (bgS s l[i]≠enS s l[i - 1])=false:=decide_eq_false (by rw [e1,e2] at he;exact fun h=>h he)
 simp only [go_sem,l152_0,zAa,h1,hd0,decide_true,x1,k1,g1,zAe,and_self,zB,zD,zC,reduceIte,reduceCtorEq,zA]
 refine qp n154 (zFq s l[i] hini) (SubL.refl _) ?_
 simp only [go_sem,w,x2,k2,g2,zAe,and_self,zB,zD,zC,reduceIte,reduceCtorEq,zA]
 refine cp n153 (zEw s l[i - 1] (hin _ (zT hlt2))) (SubL.refl _) ?_
 simp only [go_sem,hd,zB,zD,zC,reduceIte,reduceCtorEq,zA]
 all_goals
  refine zBb i (fun k => ∀ j,j<k→enS s (l.getD j stpD)≠enS s (l.getD i stpD)) (fun k=>[(1,stpsA l),(2,.ref 0 0),(5,.int .i64 (i:Nat)),(6,.int .i64 (k:Nat))]) (fun _=>⟨[some (.cells (surC s))],0,[]⟩) (fun j hj=>absurd hj (qS _)) rfl rfl ?_
  intro k hk hP2 I2 hI2
  by_cases hkl:k<i
  ·have z1:(k:Int)<(i:Nat):=by omega
   have z4:IntKind.i64.wrap ((k:Int)+1)=(k+1:Nat):=wrap64 (by omega)
   have hkl2:k<l.length:=by omega
   have z2:0≤(k:Int)∧(k:Int)<l.length:=by omega
   have z3:k * 2+2≤(stpsC l).length:=by rw [zAv];omega
   have z5:=zBt l k hkl2
   have e3:=zBq hkl2
   by_cases ee:enS s l[k]=enS s l[i]
   ·have hc:chainB s l=false:=by
     cases hc:chainB s l with
     | false=>rfl
     | true=>exact absurd (by rw [e3,e1];exact ee) ((zEl.1 hc i hlt).2 k hkl)
    simp only [go_sem,l152_1,z1,decide_true,z2,z3,z5,zAe,and_self,zB,zD,zC,reduceIte,reduceCtorEq,zA]
    refine qp n153 (zEw s l[k] (hin _ (zT hkl2))) (SubL.refl _) ?_
    simp only [go_sem,x1,k1,g1,zAe,and_self,zB,zD,zC,reduceIte,reduceCtorEq,zA]
    refine cp n153 (zEw s l[i] hini) (SubL.refl _) ?_
    have hd:=decide_eq_true ee
    simp only [go_sem,hd,Tryz.f152,zB,zD,zC,reduceIte,reduceCtorEq,zA]
    rw [hc]
   ·have hd:=decide_eq_false ee
    simp only [go_sem,l152_1,z1,decide_true,z2,z3,z5,zAe,and_self,zB,zD,zC,reduceIte,reduceCtorEq,zA]
    refine qp n153 (zEw s l[k] (hin _ (zT hkl2))) (SubL.refl _) ?_
    simp only [go_sem,x1,k1,g1,zAe,and_self,zB,zD,zC,reduceIte,reduceCtorEq,zA]
    refine cp n153 (zEw s l[i] hini) (SubL.refl _) ?_
    simp only [go_sem,hd,z4,zB,zD,zC,reduceIte,reduceCtorEq,zA]
    refine hI2 hkl fun j hj => ?_
    by_cases ej:j=k
    ·subst ej;rw [e3,e1];exact ee
    ·exact hP2 j (by omega)
  ·have z1:¬ (k:Int)<(i:Nat):=by omega
   have ek:k=i:=by omega
   subst ek
   simp only [go_sem,l152_1,z1,decide_false,h4,zB,zD,zC,reduceIte,reduceCtorEq,zA]
   refine hI hlt fun j hj => ?_
   by_cases ej:j=k
   ·subst ej;exact ⟨hcnd,hP2⟩
   ·exact hP j (by omega)
set_option maxHeartbeats 2000000
theorem closed_draw (s:Survey) (l:List Stp) (hl:l.length≤100) (hin:Lv.StepsIn s l) (Q:AQ) (h:Q .normal [(4,.bool (closedB s l))] ⟨[some (.cells (surC s))],0,[]⟩):WC (E 29) (.draw [4] 21 [] r140_1) Q [(1,stpsA l),(2,.ref 0 0)] ⟨[some (.cells (surC s))],0,[]⟩:=by
 revert h
 unfold closedB
 by_cases h2:l.length > 1
 ·have hd:(l.length:Int) > 1:=by omega
  rw [decide_eq_true h2,yF]
  intro h
  simp only [go_sem,boxA,zAa,hd,decide_true,zB,zD,zC,reduceIte,reduceCtorEq,zA]
  refine qp n152 (chain_pc s l hl hin) (SubL.refl _) ?_
  cases hc:chainB s l
  ·rw [hc] at h
   simp only [go_sem,qJ,zB,zD,zC,reduceIte,reduceCtorEq,zA]
   exact h
  have hz:0<l.length:=by omega
  have hlast:l.length - 1<l.length:=by omega
  have x1:(0:Int)≤0∧(0:Int)<l.length:=by omega
  have x2:0≤((l.length - 1:Nat):Int)∧((l.length - 1:Nat):Int)<l.length:=by omega
  have k1:2≤(stpsC l).length:=by rw [zAv];omega
  have k2:(l.length - 1) * 2+2≤(stpsC l).length:=by rw [zAv];omega
  have g1:(stpsC l).take 2=stpC l[0]:=zBt l 0 hz
  have g2:=zBt l (l.length - 1) hlast
  have w:IntKind.i64.wrap ((l.length:Int) - 1)=(l.length - 1:Nat):=by rw [show (l.length:Int) - 1=((l.length - 1:Nat):Int) by omega];exact wrap64 (by omega)
  rw [hc,zBq hz,zBq hlast,yF] at h
  simp only [go_sem,x1,Int.toNat_zero,Nat.zero_mul,k1,g1,zAe,and_self,zB,zD,zC,reduceIte,reduceCtorEq,zA]
  refine qp n154 (zFq s l[0] (hin _ (zT hz))) (SubL.refl _) ?_
  simp only [go_sem,zAa,w,x2,k2,g2,zAe,and_self,zB,zD,zC,reduceIte,reduceCtorEq,zA]
  refine cp n153 (zEw s l[l.length - 1] (hin _ (zT hlast))) (SubL.refl _) ?_
  simp only [go_sem,zB,zD,zC,reduceIte,reduceCtorEq,zA]
  exact h
 ·have hd:¬ (l.length:Int) > 1:=by omega
  rw [decide_eq_false h2,qJ]
  intro h
  simp only [go_sem,boxA,zAa,hd,decide_false,zB,zD,zC,reduceIte,reduceCtorEq,zA]
  exact h
theorem closed_all (s:Survey) (l:List Stp) (C:MC) (Q:AQ) (h:WC (E 29) C Q [(1,stpsA l),(2,.ref 0 0)] ⟨[some (.cells (surC s))],0,[]⟩):WC (E 29) (.seq (.region [1,2] r140_0) C) Q (argTS 0 [surA s,stpsA l]) St.empty:=by
 simp only [go_sem,boxA,zB,zD,zC,reduceIte,reduceCtorEq,zA]
 exact h
theorem closed_pc (s:Survey) (l:List Stp) (hl:l.length≤100) (hin:Lv.StepsIn s l):PC Tryz.prog 140 [surA s,stpsA l] (.pure (.bool (closedB s l))):=by
 refine PC.of_empty (AC.run (E_ok _) mix Tryz.func140 m140 rfl rfl rfl (zE rfl) ?_) (by simp [bndL,AV.bnd]) rfl
 refine closed_all s l _ _ ?_
 rw [wc_seq]
 refine closed_draw s l hl hin _ ?_
 simp only [go_sem,Tryz.f140,zB,zD,zC,reduceIte,reduceCtorEq,zA]
end Go.Av.Lx
end
section
set_option maxHeartbeats 2000000
namespace Go.Av.Lx
open Go Go.Av Go.Av.Tb Go.Av.Fx Go.Proofs
open Go.Lv (Sight Survey Sw Sv SightOk Stp bgS enS riseS riseL stpD chainB closedB stpAt goesB greater worstF FrQ redF)
open Go.Fw (Sq ent Bd Mat)
@[go_sem] theorem bs_stp (a:Int) (b:Bool):zAf T 117 1 [(0,.agg [.int .i64 a,.bool b])]=some (.slice [.int .i64 a,.bool b] 1 .exact):=rfl
theorem app_stp0 (S:St) (tx:Tail):appendA T S 117 .nilS (.slice [] 0 tx)=some (.pure .nilS):=rfl
theorem stps_one (l:List Stp):(stpsC l).all AV.one=true:=cat_one (f:=stpC) (fun _=>rfl) l
theorem stps_snoc (l:List Stp) (x:Stp):stpsC l ++ [.int .i64 x.sight,.bool x.back]=stpsC (l ++ [x]):=cat_snoc (f:=stpC) l x
end Go.Av.Lx
end
section
set_option maxHeartbeats 2000000
namespace Go.Av.Lx
open Go Go.Av Go.Av.Tb Go.Av.Fx Go.Proofs
open Go.Lv (Sight Survey Sw Sv SightOk Stp errF evenB redF RedP worstF FrQ)
open Go.Fw (Sq ent Bd Mat)

end Go.Av.Lx
end
