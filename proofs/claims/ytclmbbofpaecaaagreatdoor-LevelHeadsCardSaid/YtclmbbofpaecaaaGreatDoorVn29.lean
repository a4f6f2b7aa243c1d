/- Part 29 of the proof. -/
import Derived.Test.YtclmbbofpaecaaaGreatDoorVn28
import Derived.Test.YtclmbbofpaecaaaGreatDoorVn23
set_option linter.all false
set_option linter.unusedVariables false
set_option linter.unusedSimpArgs false
set_option linter.unusedSectionVars false
open Bool renaming and_self → zJ, not_true → zV, not_false → qF
open List renaming set_cons_succ → zH, set_cons_zero → zI, all_cons → zL, all_nil → zO
open Nat renaming reduceLeDiff → zA, reduceEqDiff → zB, reduceAdd → zC, reduceBEq → zD, le_of_ble_eq_true → zE
section
set_option maxHeartbeats 8000000
namespace Go.Av.Lx
open Go Go.Av Go.Av.Tb Go.Av.Fx Go.Proofs
open Go.Lv (Sight Survey Sw Sv SightOk Stp bgS enS stpAt stpD stepB ringL ringA firstI possS shortR)
def rgL (s:Survey) (long:Nat) (out:AV) (ks:List Int) (d:Option Blk) (ex2:List (Option Blk)):List (Option Blk):=rgH s long out ks ++ d :: ex2
section
variable {s:Survey} {long:Nat} {out:AV} {ks:List Int} {ex2:List (Option Blk)} {d:Option Blk}
theorem rgL_0:cellsAt (rgL s long out ks d ex2) 0=some (surC s):=rfl
theorem rgL_2:cellsAt (rgL s long out ks d ex2) 2=some [.nilS]:=rfl
theorem rgL_5:cellsAt (rgL s long out ks d ex2) 5=some [out]:=rfl
theorem rgL_6:cellsAt (rgL s long out ks d ex2) 6=some [rgF]:=rfl
theorem rgL_7:(rgL s long out ks d ex2)[7]? = some d:=rfl
theorem rgL_snoc (x:List (Option Blk)):rgL s long out ks d ex2 ++ x=rgL s long out ks d (ex2 ++ x):=by simp [rgL]
def rgS (s:Survey) (long:Nat) (out:AV) (ks:List Int) (d:Option Blk) (ex2:List (Option Blk)) (v:AV):List (Option Blk):=setH (rgL s long out ks d ex2) 2 (.cells [v])
variable {v:AV}
theorem rgS_2:cellsAt (rgS s long out ks d ex2 v) 2=some [v]:=rfl
theorem rgS_7:(rgS s long out ks d ex2 v)[7]? = some d:=rfl
end
theorem ring_draw (s:Survey) (hs:Sw s) (x:Stp) (hx:InS s x) (S S1:St) (lp i8:Nat) (c0:cellsAt S.heap 0=some (surC s)) (c6:cellsAt S.heap 6=some [rgF]) (c8:cellsAt S.heap i8=some (stpC x)) (t4 t6:AV) (Q:AQ) (R:AEnd→St→Prop)
  (h:AC Tryz.prog 172 [stpsA [x],.int .i64 (upSt s x),.ref 0 0,.ref 1 0,.ref 5 0,.ref 4 0,.ref 6 0] S R)
  (hr:∀ v S',R (.ret v) S'→Q .normal [(4,t4),(6,t6),(20,v)] S') (hp:∀ v S',¬ R (.panic v) S') :
  WC ((E 22).inRound lp S1) (.draw [4,6,20] 6 [] r138_7) Q [(2,.ref 0 0),(4,t4),(6,t6),(7,.ref 6 0),(8,.ref i8 0)] S:=by
 have bs:zAe T 117 1 [(0,.agg (stpC x))]=some (.slice (stpC x) 1 .exact):=rfl
 simp only [go_sem,c0,c6,c8,bs,zB,zD,zC,reduceIte,reduceCtorEq,zA]
 refine zBo (E:=(E 22).inRound lp S1) n135 (rises_pc s hs x hx) (SubL.refl _) ?_
 simp only [go_sem,zB,zD,zC,reduceIte,reduceCtorEq,zA]
 refine ⟨n172,_,_,SubL.cons (Sub.unk _ _ _) (SubL.refl _),h,fun v S' hh => ?_,fun v S' hh=>(hp _ _ hh).elim⟩
 have:=hr v S' hh
 simp only [go_sem,zB,zD,zC,reduceIte,reduceCtorEq,zA]
 exact this
def LgRun (s:Survey) (long:Nat) (F:Nat→Option (List Stp)) (N:Nat) (r:Loop) (k:Nat) (S':St):Prop:=
 firstI F 0 N=firstI F k (N - k) ∧ ∃ out' ex2 nt' tk',S'=⟨rgL s long out' [] (some (.loop r)) ex2,nt',tk'⟩
def LgStop (s:Survey) (long:Nat) (F:Nat→Option (List Stp)) (N:Nat) (r:Loop) (S':St):Prop:=
 ∃ r' ks' ex2 nt' tk',firstI F 0 N=some r'∧S'=⟨rgS s long (stpsA r') ks' (some (.loop (stopL r))) ex2 (stpsA r'),nt',tk'⟩
def zFb (o:Option (List Stp)):AV:=match o with
 | some r=>stpsA r
 | none=>.nilS
theorem ring_pc (s:Survey) (hv:Sv s) (long:Nat) (h2:2≤long) (hlong:long≤40):PC Tryz.prog 138 [surA s,.int .i64 long] (.pure (zFb (ringA s long []))):=by
 have hbn:(zFb (ringA s long [])).bnd 0 0=true:=by
  unfold zFb
  split
  ·simp [AV.bnd]
  ·rfl
 refine PC.of_frz (AC.run (E_ok 22) mix Tryz.func138 m138 rfl rfl rfl (zE rfl) ?_) (by simp [bndL,AV.bnd]) hbn
 have hs:=hv.toSw
 have hmany:=hv.many
 rw [← Lv.ring_len h2]
 obtain ⟨F,hF⟩:∃ F:Nat→Option (List Stp),F=fun i=>ringL s (long - 1) [] (stpAt i):=⟨_,rfl⟩
 rw [← hF]
 simp only [go_sem,boxA,makeMapA,zAd,AV.cells,AV.one,zL,zO,zJ,splice,zI,zH,and_self,zB,zD,zC,reduceIte,reduceCtorEq,zA]
 refine cp n173 (steps_pc s (-1)) (SubL.refl _) ?_
 simp only [go_sem,zB,zD,zC,reduceIte,reduceCtorEq,zA]
 refine .inr ⟨fun _=>trivial,rfl,rfl,_,_,rfl,n186,fun r S'=>LgRun s long F (2 * s.sights.length) r (2 * s.sights.length) S'∨LgStop s long F (2 * s.sights.length) r S',fun r hr hp => ?_⟩
 have hi:∀ nt tk,(⟨[some (.cells (surC s)),some (.cells [.int .i64 long]),some (.cells [.nilS]),some (.map []),some (.cells [.map 3]),some (.cells [.nilS]),some (.cells [rgF])],nt,tk⟩:St).heap.length=7:=fun _ _=>rfl
 rw [hi]
 refine ⟨steps1_it s (by omega) (-1) (LgRun s long F (2 * s.sights.length) r) (LgStop s long F (2 * s.sights.length) r) _ ?_ ?_ ?_ _ ⟨rfl,.nilS,[],_,_,rfl⟩, ?_⟩
 ·rintro k H nt1 tk1 B ⟨e1,out',ex2,nt',tk',e2⟩
  injection e2 with e3 e4 e5
  subst e3
  exact ⟨e1,out',ex2 ++ [some B],nt1,tk1,by rw [rgL_snoc]⟩
 ·rintro k S1 hk hf ⟨hfi,out',ex2,nt',tk',rfl⟩
  refine ⟨rfl,rgL_7,fun lp => ?_⟩
  have eF:F k=ringL s (long - 1) [] (stpAt k):=by rw [hF]
  have hx:InS s (stpAt k):=Lv.stpAt_in hk
  obtain ⟨q,hq⟩:∃ q,2 * s.sights.length - k=q+1:=⟨2 * s.sights.length - k - 1,by omega⟩
  rw [hq,zBx,eF] at hfi
  generalize hX:stpAt k=x at *
  have c2:=fun z B=>zAs (rgL s long out' [] (some (.loop r)) ex2) z B
  have c1:=fun z=>zAf (rgL s long out' [] (some (.loop r)) ex2) z
  simp only [go_sem,a138_0,zipTS,c1,c2,zAd,AV.cells,AV.one,zL,zO,zJ,splice,zI,zH,and_self,zB,zD,zC,reduceIte,reduceCtorEq,zA]
  refine ⟨by rw [rgL_snoc];exact rgL_7, ?_⟩
  have hput2:setH (rgL s long out' [] (some (.loop r)) ex2 ++ [some (Blk.cells (stpC x))]) 7 (.loop (busyL r))=rgL s long out' [] (some (.loop (busyL r))) (ex2 ++ [some (Blk.cells (stpC x))]):=by
   rw [rgL_snoc];rfl
  rw [hput2]
  have c12:cellsAt (rgL s long out' [] (some (.loop (busyL r))) (ex2 ++ [some (Blk.cells (stpC x))])) (rgL s long out' [] (some (.loop r)) ex2).length=some (stpC x):=by
   rw [← rgL_snoc,show (rgL s long out' [] (some (.loop r)) ex2).length=(rgL s long out' [] (some (.loop (busyL r))) ex2).length by simp [rgL]]
   exact zAf _ _
  unfold b138_0
  obtain ⟨D,hD⟩:∃ D,MC.draw [4,6,20] 6 [] r138_7=D:=⟨_,rfl⟩
  rw [hD]
  simp only [go_sem,zB,zD,zC,reduceIte,reduceCtorEq,zA]
  subst hD
  have htot:Wk.tot (stepB s) ([] ++ [x])=upSt s x:=by
   show (stepB s x).m+0=_
   rw [Int.add_zero];rfl
  have hC:=ring1_ac s hv long hlong (long - 1) [] x [] out' (some (.loop (busyL r)) :: (ex2 ++ [some (Blk.cells (stpC x))])) nt' tk' (by simp;omega) (fun z hz=>by rw [List.mem_singleton.1 hz];exact hx) (fun i=>Iff.rfl)
  rw [htot] at hC
  refine ring_draw s hs x hx _ _ lp _ rgL_0 rgL_6 c12 _ _ _ _ hC ?_ (fun v S'=>RgEnd.noPanic)
  intro v S' hR
  cases hq2:ringL s (long - 1) [] x with
  | some rr =>
   rw [hq2] at hR hfi
   obtain ⟨hv1,ks',ex',nt3,tk3,rfl⟩:=hR
   cases hv1
   have e:rgH s long (stpsA rr) ks' ++ ((some (.loop (busyL r)) :: (ex2 ++ [some (Blk.cells (stpC x))])) ++ ex')=rgL s long (stpsA rr) ks' (some (.loop (busyL r))) ((ex2 ++ [some (Blk.cells (stpC x))]) ++ ex'):=rfl
   rw [e]
   have hst:setH (rgL s long (stpsA rr) ks' (some (.loop (busyL r))) ((ex2 ++ [some (Blk.cells (stpC x))]) ++ ex')) 2 (.cells [stpsA rr])=rgS s long (stpsA rr) ks' (some (.loop (busyL r))) ((ex2 ++ [some (Blk.cells (stpC x))]) ++ ex') (stpsA rr):=rfl
   simp only [go_sem,rgL_5,rgL_2,hst,zAd,AV.cells,AV.one,zL,zO,zJ,splice,zI,zH,and_self,zB,zD,zC,reduceIte,reduceCtorEq,zA]
   exact ⟨rgS_7,.inr ⟨rfl,rr,ks',_,_,_,hfi,by rw [put_mk];rfl⟩⟩
  | none =>
   rw [hq2] at hR hfi
   obtain ⟨hv1,out2,ex',nt3,tk3,rfl⟩:=hR
   cases hv1
   have e:rgH s long out2 [] ++ ((some (.loop (busyL r)) :: (ex2 ++ [some (Blk.cells (stpC x))])) ++ ex')=rgL s long out2 [] (some (.loop (busyL r))) ((ex2 ++ [some (Blk.cells (stpC x))]) ++ ex'):=rfl
   rw [e]
   simp only [go_sem,zB,zD,zC,reduceIte,reduceCtorEq,zA]
   exact ⟨rgL_7,.inl ⟨rfl,by rw [hfi,show 2 * s.sights.length - (k+1)=q by omega],out2,_,_,_,by rw [put_mk];rfl⟩⟩
 ·rintro k S1 hk hf _
  exact absurd (.inl (by decide)) hf
 ·rintro S' (⟨hfi,out',ex2,nt',tk',rfl⟩ | ⟨r',ks',ex2,nt',tk',hfi,rfl⟩)
  ·refine .inl ⟨rgL_7, ?_⟩
   have hclr:∀ i,i=7→St.clear ⟨rgL s long out' [] (some (.loop r)) ex2,nt',tk'⟩ i=⟨rgL s long out' [] none ex2,nt',tk'⟩:=fun i e=>by subst e;rfl
   rw [hclr _ rfl]
   have h0:firstI F 0 (2 * s.sights.length)=none:=by rw [hfi,Nat.sub_self];rfl
   rw [h0]
   have hst:setH (rgL s long out' [] none ex2) 2 (.cells [.nilS])=rgS s long out' [] none ex2 .nilS:=rfl
   simp only [go_sem,rgL_2,hst,rgS_2,zAd,AV.cells,AV.one,zL,zO,zJ,splice,zI,zH,and_self,Tryz.f138,zB,zD,zC,reduceIte,reduceCtorEq,zA]
   exact ⟨_,rfl,.same _⟩
  ·refine .inr ⟨rgS_7, ?_⟩
   have hclr:∀ i,i=7→St.clear ⟨rgS s long (stpsA r') ks' (some (.loop (stopL r))) ex2 (stpsA r'),nt',tk'⟩ i=⟨rgS s long (stpsA r') ks' none ex2 (stpsA r'),nt',tk'⟩:=fun i e=>by subst e;rfl
   rw [hclr _ rfl,hfi]
   simp only [go_sem,rgS_2,Tryz.f138,zB,zD,zC,reduceIte,reduceCtorEq,zA]
   exact ⟨_,rfl,.same _⟩
def RingA (s:Survey):AV:=if zAp s=true then (if possS s=true then .tuple [.nilS,.int .i64 5] else match shortR s with
 | some l=>.tuple [stpsA l,.int .i64 0]
 | none=>.tuple [.nilS,.int .i64 5]) else .tuple [.nilS,.int .i64 2]
theorem RingA_bnd (s:Survey):(RingA s).bnd 0 0=true:=by
 unfold RingA
 repeat' split
 all_goals simp [AV.bnd,bndL]
theorem neStp_n:binA T .neq 117 .nilS .nilS=some (.bool false):=rfl
theorem neStp_s {l:List AV} {n:Nat} {t:Tail} (h:0<n):binA T .neq 117 (.slice l n t) .nilS=some (.bool true):=by
 have:binA T .neq 117 (.slice l n t) .nilS=(if 0<n then some false else none).map fun b=>.bool !b:=rfl
 rw [this,if_pos h];rfl
theorem Ring_pc (s:Survey) (hl:okL s.sights.length):PC Tryz.prog 72 [surA s] (.pure (RingA s)):=by
 refine PC.of_frz (AC.run (E_ok _) mix Tryz.func72 m72 rfl rfl rfl (zE rfl) ?_) (by simp [bndL,AV.bnd]) (RingA_bnd s)
 unfold RingA
 simp only [go_sem,boxA,zB,zD,zC,reduceIte,reduceCtorEq,zA]
 refine cp n89 (zBn s hl) (SubL.refl _) ?_
 cases hs:zAp s
 ·simp only [go_sem,zAg,qF,Tryz.f72,zB,zD,zC,reduceIte,reduceCtorEq,zA]
  exact ⟨_,rfl,.same _⟩
 have hv:=zCk.1 hs
 have hm:=hv.many
 have hst:s.stations=(Lv.num s:Int):=by have:=hv.st;show _=((s.stations.toNat:Nat):Int);omega
 have h8:=hv.toSw.num8
 have h2:2≤Lv.num s:=by have:=hv.st;show 2≤s.stations.toNat;omega
 rw [if_pos rfl]
 simp only [go_sem,zAg,zV,zB,zD,zC,reduceIte,reduceCtorEq,zA]
 refine cp n107 (zEf s hv.toSw (by omega)) (SubL.refl _) ?_
 cases hp:possS s
 rotate_left
 ·simp only [go_sem,Tryz.f72,zB,zD,zC,reduceIte,reduceCtorEq,zA]
  exact ⟨_,rfl,.same _⟩
 rw [if_neg (by decide)]
 obtain ⟨G,hG⟩:∃ G:Nat→Option (List Stp),G=fun long=>ringA s long []:=⟨_,rfl⟩
 have hS:shortR s=firstI G 2 (Lv.num s - 1):=by rw [hG];rfl
 rw [hS]
 generalize hWW:firstI G 2 (Lv.num s - 1)=W
 have hlen:∀ k r,G (2+k)=some r→0<r.length:=fun k r h=>by
  rw [hG] at h
  obtain ⟨t,t1,t2,_⟩:=Lv.ringA_some h
  rw [t1];simp;omega
 simp only [go_sem,zB,zD,zC,reduceIte,reduceCtorEq,zA]
 refine zBi (Lv.num s - 1) (fun k=>W=firstI G (2+k) (Lv.num s - 1 - k)) (fun k=>[(1,.ref 0 0),(4,.int .i64 (2+k:Nat))]) (fun _=>⟨[some (.cells (surC s))],0,[]⟩) hWW.symm rfl rfl ?_
 clear hWW
 intro k hk hP I hI
 by_cases g:k<Lv.num s - 1
 ·have h1:((2+k:Nat):Int)≤s.stations:=by omega
  have h4:IntKind.i64.wrap (((2+k:Nat):Int)+1)=(2+(k+1):Nat):=wrap64 (by omega)
  have hI:=hI g
  rw [show Lv.num s - 1 - k=(Lv.num s - 1 - (k+1))+1 by omega,zBx] at hP
  have hC:=ring_pc s hv (2+k) (by omega) (by omega)
  have eG:ringA s (2+k) []=G (2+k):=by rw [hG]
  rw [eG] at hC
  simp only [go_sem,l72_0,h1,decide_true,zB,zD,zC,reduceIte,reduceCtorEq,zA]
  refine cp n138 hC (SubL.refl _) ?_
  cases hr:G (2+k) with
  | none =>
   rw [hr] at hP
   have hn:=neStp_n
   simp only [go_sem,zFb,hn,h4,zB,zD,zC,reduceIte,reduceCtorEq,zA]
   exact hI (by rw [hP];rfl)
  | some r =>
   have hr0:=hlen k r hr
   rw [hr] at hP
   subst hP
   have hn:=neStp_s (l:=stpsC r) (t:=.unk) hr0
   simp only [go_sem,zFb,hn,Tryz.f72,zB,zD,zC,reduceIte,reduceCtorEq,zA]
   exact ⟨_,rfl,.same _⟩
 ·have h1:¬ ((2+k:Nat):Int)≤s.stations:=by omega
  have ek:Lv.num s - 1 - k=0:=by omega
  rw [ek] at hP
  subst hP
  simp only [go_sem,l72_0,h1,decide_false,Tryz.f72,zB,zD,zC,reduceIte,reduceCtorEq,zA]
  exact ⟨_,rfl,.same _⟩
end Go.Av.Lx
end
