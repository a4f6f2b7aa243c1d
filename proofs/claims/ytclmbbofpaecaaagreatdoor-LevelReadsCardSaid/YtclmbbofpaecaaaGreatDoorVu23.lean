/- Part 23 of the proof. -/
import Derived.Test.YtclmbbofpaecaaaGreatDoorVu22
set_option linter.all false
set_option linter.unusedVariables false
set_option linter.unusedSimpArgs false
set_option linter.unusedSectionVars false
open Bool renaming and_self → zJ, and_eq_true → zR, not_true → zX, not_false → qF, true_and → qU, false_and → qW
open Int renaming toNat_natCast → qQ
open List renaming getElem?_eq_getElem → zF, set_cons_succ → zG, set_cons_zero → zH, getD_eq_getElem?_getD → zI, all_cons → zK, all_nil → zM, mem_cons_self → zO, getElem?_eq_none → zP, mem_cons_of_mem → zQ, length_cons → zT, length_nil → zZ, getElem_mem → qA, getElem?_append_right → qD, length_append → qE, take_succ_eq_append_getElem → qG, mem_singleton → qL, getElem?_append_left → qO, map_append → qP, take_length → qY, flatMap_cons → yD, not_mem_nil → yE, getElem?_replicate → yH, range_succ → yI, nil_append → yJ, mem_cons → yL, headD_cons → yM, length_take → yQ, tail_cons → yS
open Nat renaming reduceLeDiff → zA, reduceEqDiff → zB, reduceAdd → zC, reduceBEq → zD, le_of_ble_eq_true → zE, le_refl → zN, zero_le → qI
section
set_option maxHeartbeats 2000000
namespace Go.Av.Lx
open Go Go.Av Go.Av.Tb Go.Av.Fx Go.Proofs
open Go.Lv (Sight Survey Sw Sv SightOk Stp errF evenB RedP)
open Go.Fw (Sq ent Bd Mat)
theorem kA_bnd (s:Survey) (V:Mat):(kA s V).bnd 0 0=true:=by simp [AV.bnd,bndL]
theorem known_even_pc (s:Survey) (h:Sw s) (he:s.sights=[]) (ds:List Bound) (hd:ds.length≤1000) (hok:∀ x∈ds,BOk (Lv.num s) x) {V:Mat} (hV:kn s ds=some V) (hsq:Sq (Lv.num s) V):PC Tryz.prog 94 [surA s,.slice (bnds ds) ds.length .unk] (.pure (kA s V)):=by
 refine PC.of_frz (known_run s h (by rw [he];simp) ds hd hok _ [] 0 [] (.inr ⟨he,rfl⟩) _ ?_ ?_) (by simp [bndL,AV.bnd]) (kA_bnd s V)
 ·intro h0
  rw [kn_eq h,hV] at h0;cases h0
 ·intro V' hV' A C t nt tk h3 hN
  rw [kn_eq h,hV] at hV'
  cases hV'
  refine ⟨_,rfl, ?_⟩
  rw [yJ]
  exact kv_frz hsq h3 t
def evS (s:Survey):Survey:=⟨s.stations,[]⟩
theorem evS_sw {s:Survey} (h:Sw s):Sw (evS s):=⟨h.st,fun x hx=>by cases hx⟩
theorem least1_ac (s:Survey) (h:Sw s) (ds:List Bound) (hd:ds.length≤1000) (hok:∀ x∈ds,BOk (Lv.num s) x) {V:Mat} (hV:kn (evS s) ds=some V) (hsq:Sq (Lv.num s) V) (M:AV) (H:List (Option Blk)) (N:Nat) (toks:List Nat) (hM:Sub M (.slice (bnds ds) ds.length .unk))
  (i j k l:Nat) (hi:cellsAt H i=some [.int .i64 s.stations,.nilS]) (hj:cellsAt H j=some [M]) (hk:cellsAt H k=some (surC s)) (hl:cellsAt H l=some [.nilS]) (hkl:k≠l) :
  AC Tryz.prog 93 [.ref i 0,.ref j 0,.ref k 0,.ref l 0] ⟨H,N,toks⟩ fun e S'=>e=.ret (.tuple []) ∧ ∃ Hh W nt tk,S'=⟨Hh,nt,tk⟩∧cellsAt Hh l=some [W]∧(∀ q,q<H.length→q≠l→cellsAt Hh q=cellsAt H q)∧Own (ints ((List.range (Lv.num s)).map (lowAt V (Lv.num s)))) (Lv.num s) W nt tk:=by
 refine AC.run (Es_ok _ _) mix Tryz.func93 m93 rfl rfl rfl (zE rfl) ?_
 have hst:s.stations=(Lv.num s:Int):=by have:=h.st;show _=((s.stations.toNat:Nat):Int);omega
 have hn2:2≤Lv.num s∧Lv.num s≤8:=by have:=h.st;show 2≤s.stations.toNat∧s.stations.toNat≤8;omega
 have hkp:=known_even_pc (evS s) (evS_sw h) rfl ds hd hok hV hsq
 have cax:∀ X,cellsAt (H ++ X) k=some (surC s):=fun X=>zAn hk X
 have c1:=zAf H
 have c2:=fun x B=>zAt H x B
 simp only [go_sem,hi,hj,zB,zD,zC,reduceIte,reduceCtorEq,zA]
 refine zCd (E:=Es _ _) n94 hkp (SubL.cons (Sub.agg (SubL.cons (Sub.refl _) (SubL.cons Sub.nil (SubL.refl [])))) (SubL.cons hM (SubL.refl []))) ?_
 simp only [go_sem,c1,c2,zAd,AV.cells,AV.one,zK,zM,zJ,splice,zH,zG,and_self,cax,zB,zD,zC,reduceIte,reduceCtorEq,zA]
 obtain ⟨n,hn⟩:∃ n,Lv.num s=n:=⟨_,rfl⟩
 rw [hn] at hn2 hst hsq ⊢
 have hll:=zDy hl
 refine zAs (fun m ts' S' => ∃ a W nt tk Hh,a≤n∧m=n - a∧ts'=[(3,.ref l 0),(4,.ref H.length 0),(11,.int .i64 s.stations),(12,.int .i64 (a:Nat))]∧S'=⟨Hh,nt,tk⟩∧cellsAt Hh l=some [W]∧cellsAt Hh H.length=some (kvC (evS s) (wS V))∧(∀ q,q<H.length→q≠l→cellsAt Hh q=cellsAt H q)∧Own (ints ((List.range a).map (lowAt V n))) a W nt tk) n ⟨0,.nilS,N,toks,_,qI _,rfl,rfl,rfl,zAn hl _,c1 _,fun q hq _ => ?_,Own.nil _ _⟩ ?_
 ·unfold cellsAt;rw [qO hq]
 rintro m ts' S' ⟨a,W,nt,tk,Hh,ha,rfl,rfl,rfl,d1,d2,d3,ho⟩
 by_cases hlt:a<n
 ·have h1:(a:Int)<s.stations:=by omega
  have h4:IntKind.i64.wrap ((a:Int)+1)=(a+1:Nat):=wrap64 (by omega)
  have hb:=baseG_lt V hlt
  have hx:=zDy d1
  have hs:∀ B,setH Hh l (.cells B)=setH Hh l (.cells B):=fun _=>rfl
  simp only [go_sem,l93_0,h1,decide_true,d2,zB,zD,zC,reduceIte,reduceCtorEq,zA]
  refine zCd (E:=Es _ _) n87 (base_pc (evS s) hst (by omega) hsq hlt) (SubL.refl _) ?_
  simp only [go_sem,d1,d2,zB,zD,zC,reduceIte,reduceCtorEq,zA]
  refine zBq (E:=Es _ _) n95 (least_pc (evS s) hsq hb hlt) (SubL.refl _) ?_
  simp only [go_sem,d1,zAa,zB,zD,zC,reduceIte,reduceCtorEq,zA]
  refine zCr (lx:=[.int .i64 (IntKind.i64.wrap (0 - ent V a (baseG V n a)))]) rowInts ho (by simp) rfl (by decide) rfl (by omega) fun W' tk' g => ?_
  obtain ⟨q1,q2⟩:=g.own.cells
  simp only [go_sem,d1,q1,q2,zAd,zK,zM,zJ,splice,and_self,zH,zG,h4,zB,zD,zC,reduceIte,reduceCtorEq,zA]
  refine zAh (n - (a+1)) (by omega) ⟨a+1,W',nt+1,tk',_,hlt,rfl,rfl,rfl,cells_self hx, ?_,fun q hq hne => ?_, ?_⟩
  ·rw [zBz hx (by omega)];exact d2
  ·rw [zBz hx hne];exact d3 q hq hne
  ·have:=g.own
   rw [show [AV.int .i64 (IntKind.i64.wrap (0 - ent V a (baseG V n a)))]=ints [lowAt V n a] from rfl,ints_app] at this
   rw [yI,qP]
   exact this
 ·have h1:¬ (a:Int)<s.stations:=by omega
  have e:a=n:=by omega
  subst e
  simp only [go_sem,l93_0,h1,decide_false,Tryz.f93,zB,zD,zC,reduceIte,reduceCtorEq,zA]
  exact ⟨rfl,Hh,W,nt,tk,rfl,d1,d3,ho⟩
def leB (d o:Int) (x:Sight):List Bound:=sB ⟨x.frm,x.to,x.rise * d,o⟩
theorem leB_bd {n:Int} {x:Sight} (hx:SightOk n x) {d o:Int} (hd:1≤d∧d≤8) (ho:0≤o∧o≤8000):(leB d o x).map bd=Lv.sightD d o x:=by
 have:=rise_by hx.rise hd
 unfold leB sB Lv.sightD
 simp only [List.map_cons,List.map_nil,bd]
 rw [wrap64 (by omega),wrap64 (by omega)]
def lesB (s:Survey) (d o:Int) (l:List Sight):List Bound:=l.flatMap (leB d o)
theorem lesB_bd {s:Survey} (h:Sw s) {d o:Int} (hd:1≤d∧d≤8) (ho:0≤o∧o≤8000):(lesB s d o s.sights).map bd=evenB s d o:=by
 unfold lesB evenB
 rw [List.map_flatMap]
 have:∀ l:List Sight,(∀ x∈l,SightOk s.stations x)→l.flatMap (fun a=>(leB d o a).map bd)=l.flatMap (Lv.sightD d o):=fun l hl=>by
  induction l with
  | nil=>rfl
  | cons x l ih=>rw [yD,yD,leB_bd (hl x zO) hd ho,ih fun y hy=>hl y (zQ _ hy)]
 exact this _ h.sights
theorem lesB_len (s:Survey) (d o:Int) (l:List Sight):(lesB s d o l).length=l.length * 2:=by
 unfold lesB
 induction l with
 | nil=>rfl
 | cons x l ih=>rw [yD,qE,ih,zT];simp [leB,sB];omega
theorem lesB_ok {s:Survey} (h:Sw s) {d o:Int} (hd:1≤d∧d≤8) (ho:0≤o∧o≤8000):∀ b∈lesB s d o s.sights,BOk (Lv.num s) b:=fun b hb=>by
 obtain ⟨x,hx,hb⟩:=List.mem_flatMap.1 hb
 have hx:=h.sights x hx
 have a:=rise_by hx.rise hd
 have h1:=hx.frm;have h2:=hx.to
 have h3:=h.st
 have e:((Lv.num s:Nat):Int)=s.stations:=by show ((s.stations.toNat:Nat):Int)=_;omega
 simp only [leB,sB,yL,yE,or_false] at hb
 rw [wrap64 (by omega),wrap64 (by omega)] at hb
 rcases hb with rfl | rfl
 ·exact ⟨by rw [e];exact h1,by rw [e];exact h2,by show -20000≤x.rise * d+o∧x.rise * d+o≤20000;omega⟩
 ·exact ⟨by rw [e];exact h2,by rw [e];exact h1,by show -20000≤o - x.rise * d∧o - x.rise * d≤20000;omega⟩
def evenV (s:Survey):Mat:=(Lv.clo (Lv.num s) (evenB s (errF s).2 (errF s).1)).getD []
theorem evenV_eq {s:Survey} (h:Sw s):Lv.clo (Lv.num s) (evenB s (errF s).2 (errF s).1)=some (evenV s):=by
 obtain ⟨V,hV⟩:=Lv.even_some h (Lv.err_ok h)
 unfold evenV
 rw [hV];rfl
def evenL (s:Survey):List Int:=(List.range (Lv.num s)).map (lowAt (evenV s) (Lv.num s))
def leastA (s:Survey):AV:=if zAp s=true then .tuple [frA (errF s),sl (evenL s),.int .i64 0] else .tuple [frA (0,0),.nilS,.int .i64 2]
theorem leastA_bnd (s:Survey):(leastA s).bnd 0 0=true:=by
 unfold leastA
 split
 ·simp [AV.bnd,bndL]
 ·rfl
def lone (i:Nat) (l:List AV):St:=⟨List.replicate i none ++ [some (.cells l)],0,[]⟩
theorem lone_at (i:Nat) (l:List AV):cellsAt (lone i l).heap i=some l:=by
 unfold cellsAt lone
 have:(List.replicate i (none:Option Blk) ++ [some (Blk.cells l)])[i]? = some (some (.cells l)):=by
  rw [qD (by simp)];simp
 show (match (List.replicate i (none:Option Blk) ++ [some (Blk.cells l)])[i]? with | some (some (.cells l))=>some l | _=>none)=_
 rw [this]
theorem lone_sees {i:Nat} {l:List AV} {H:List (Option Blk)} (h:cellsAt H i=some l):∀ (p:Nat) (B:Blk),(lone i l).heap[p]? = some (some B)→p∈[i]∧H[p]? = some (some B):=by
 intro p B e
 unfold lone at e
 simp only [List.getElem?_append,List.length_replicate,yH] at e
 split at e
 ·cases e
 ·rename_i hp
  by_cases h0:p=i
  ·subst h0
   simp at e
   subst e
   refine ⟨by simp, ?_⟩
   unfold cellsAt at h
   revert h
   split
   ·intro h;cases h;assumption
   ·intro h;cases h
  ·rw [zP (by simp;omega)] at e
   cases e
theorem Least_pc (s:Survey) (hl:okL s.sights.length):PC Tryz.prog 32 [surA s] (.pure (leastA s)):=by
 refine PC.of_frz (AC.run (E_ok _) mix Tryz.func32 m32 rfl rfl rfl (zE rfl) ?_) (by simp [bndL,AV.bnd]) (leastA_bnd s)
 unfold leastA
 simp only [go_sem,boxA,zB,zD,zC,reduceIte,reduceCtorEq,zA]
 refine cp n89 (zBp s hl) (SubL.refl _) ?_
 cases hs:zAp s
 ·simp only [go_sem,zAi,qF,zAd,AV.cells,AV.one,zK,zM,zJ,splice,zH,zG,and_self,Tryz.f32,zB,zD,zC,reduceIte,reduceCtorEq,zA]
  exact ⟨_,rfl,.same _⟩
 have hv:=zDp.1 hs
 have h:=hv.toSw
 have hr:=Lv.err_ok h
 obtain ⟨b1,b2,b3⟩:=Lv.err_bd h hr
 have hbd0:buildA T 24 [(0,.int .i64 s.stations)]=some (.agg [.int .i64 s.stations,.nilS]):=rfl
 simp only [go_sem,zAi,zX,zB,zD,zC,reduceIte,reduceCtorEq,zA]
 refine cp n90 (least_err_pc s h (by have:=hv.many;omega)) (SubL.refl _) ?_
 obtain ⟨o,ho⟩:∃ o,errF s=o:=⟨_,rfl⟩
 rw [ho] at b1 b2 b3 ⊢
 obtain ⟨p,q⟩:=o
 simp only at b1 b2 b3
 simp only [go_sem,hbd0,zAd,AV.cells,AV.one,zK,zM,zJ,splice,zH,zG,and_self,zAa,zB,zD,zC,reduceIte,reduceCtorEq,zA]
 refine zAs (fun m ts' S' => ∃ k M nt tk X,k≤s.sights.length∧m=s.sights.length - k∧ts'=[(1,.ref 0 0),(2,.ref 1 0),(5,.ref 2 0),(6,.ref 3 0),(7,.ref 4 0),(22,.slice (sgts s.sights) s.sights.length .unk),(23,.int .i64 s.sights.length),(24,.int .i64 (k:Nat))]∧S'=⟨[some (.cells (surC s)),some (.cells [.int .i64 0,.int .i64 0]),some (.cells [.int .i64 p,.int .i64 q]),some (.cells [.int .i64 s.stations,.nilS]),some (.cells [M])] ++ X,nt,tk⟩∧MoreA (lesB s q p (s.sights.take k)) M ⟨[],nt,tk⟩ nt) s.sights.length ⟨0,.nilS,0,[],[],qI _,rfl,rfl,rfl,.inl ⟨rfl,by simp [lesB]⟩⟩ ?_
 rintro m ts' S' ⟨k,M,nt,tk,X,hk,rfl,rfl,rfl,hM⟩
 have hM1:M.cells=[M]∧M.one=true:=by
  rcases hM with ⟨rfl,_⟩ | ⟨k,rfl,_,_⟩
  ·exact ⟨rfl,rfl⟩
  ·exact ⟨rfl,rfl⟩
 have c1:∀ a b c d e l,cellsAt (a :: b :: c :: d :: e :: (X ++ [some (.cells l)])) (X.length+1+1+1+1+1)=some l:=fun a b c d e l=>zAf (a :: b :: c :: d :: e :: X) l
 have c2:∀ a b c d e x B,setH (a :: b :: c :: d :: e :: (X ++ [x])) (X.length+1+1+1+1+1) B=a :: b :: c :: d :: e :: (X ++ [some B]):=fun a b c d e x B=>zAt (a :: b :: c :: d :: e :: X) x B
 by_cases hlt:k<s.sights.length
 ·have k1:(k:Int)<s.sights.length:=by omega
  have k2:0≤(k:Int)∧(k:Int)<s.sights.length:=by omega
  have k3:k * 4+4≤(sgts s.sights).length:=by rw [zAx];omega
  have k4:IntKind.i64.wrap ((k:Int)+1)=(k+1:Nat):=wrap64 (by omega)
  have k5:=zBy s.sights k hlt
  have hx:=h.sights _ (qA hlt)
  have hm14:=hv.many
  have hlen2:(lesB s q p (s.sights.take k)).length+(leB q p s.sights[k]).length≤1000000:=by rw [lesB_len,yQ];simp [leB,sB];omega
  have hlb:lesB s q p (s.sights.take (k+1))=lesB s q p (s.sights.take k) ++ leB q p s.sights[k]:=by
   rw [qG hlt];unfold lesB;rw [List.flatMap_append];simp
  generalize s.sights[k]=x at *
  have w0:=rise_by hx.rise b1
  have w1:IntKind.i64.wrap (x.rise * q)=x.rise * q:=wrap64 (by omega)
  have hbd:∀ a b c d:Int,buildA T 85 [(0,.int .i64 a),(1,.int .i64 b),(2,.int .i64 c),(3,.int .i64 d)]=some (.agg [.int .i64 a,.int .i64 b,.int .i64 c,.int .i64 d]):=fun _ _ _ _=>rfl
  simp only [go_sem,l32_0,k1,decide_true,k2,k3,k5,zAg,and_self,c1,c2,zAd,AV.cells,AV.one,zK,zM,zJ,splice,zH,zG,w1,hbd,zB,zD,zC,reduceIte,reduceCtorEq,zA]
  refine qp n91 (zDq ⟨x.frm,x.to,x.rise * q,p⟩) (SubL.refl _) ?_
  simp only [go_sem,zAa,zB,zD,zC,reduceIte,reduceCtorEq,zA]
  refine MoreA.app (S:=⟨_,nt,tk⟩) (l:=leB q p x) (N:=nt) (hM.mono (S':=⟨some (.cells (surC s)) :: some (.cells [.int .i64 0,.int .i64 0]) :: some (.cells [.int .i64 p,.int .i64 q]) :: some (.cells [.int .i64 s.stations,.nilS]) :: some (.cells [M]) :: (X ++ [some (.cells (sgtC x))]),nt,tk⟩) (fun k hk _=>hk) (zN _)) (zN _) (by simp [leB,sB]) hlen2 fun M3 tk3 hM3 => ?_
  have hM3':M3.cells=[M3]∧M3.one=true:=by
   rcases hM3 with ⟨rfl,_⟩ | ⟨k,rfl,_,_⟩
   ·exact ⟨rfl,rfl⟩
   ·exact ⟨rfl,rfl⟩
  obtain ⟨q1,q2⟩:=hM3'
  simp only [go_sem,q1,q2,zAd,zK,zM,zJ,splice,and_self,zH,zG,k4,zB,zD,zC,reduceIte,reduceCtorEq,zA]
  refine zAh (s.sights.length - (k+1)) (by omega) ⟨k+1,M3,nt+1,tk3,_,hlt,rfl,rfl,rfl, ?_⟩
  rw [hlb];exact hM3.mono (fun k hk _=>hk) (zN _)
 have k1:¬ (k:Int)<s.sights.length:=by omega
 have ek:k=s.sights.length:=by omega
 subst ek
 rw [qY] at hM
 have hV:=evenV_eq h
 have hkn:kn (evS s) (lesB s q p s.sights)=some (evenV s):=by
  unfold kn
  rw [lesB_bd h b1 ⟨b2,b3⟩]
  rw [ho] at hV
  show Lv.clo (Lv.num s) (evenB s q p ++ [])=_
  rw [List.append_nil];exact hV
 have hsq:Sq (Lv.num s) (evenV s):=(Lv.clo_shape (Lv.even_oks h (Lv.err_bd h hr).1 (Lv.err_bd h hr).2) hV).sq
 have hsub:Sub M (.slice (bnds (lesB s q p s.sights)) (lesB s q p s.sights).length .unk):=by
  rcases hM with ⟨rfl,e⟩ | ⟨k,rfl,_,_⟩
  ·rw [e];exact Sub.nil
  ·exact Sub.unk _ _ _
 simp only [go_sem,l32_0,k1,decide_false,zB,zD,zC,reduceIte,reduceCtorEq,zA]
 obtain ⟨S0,hS0⟩:∃ S0:List (Option Blk),some (.cells (surC s)) :: some (.cells [.int .i64 0,.int .i64 0]) :: some (.cells [.int .i64 p,.int .i64 q]) :: some (.cells [.int .i64 s.stations,.nilS]) :: some (.cells [M]) :: (X ++ [some (.cells [.nilS])])=S0:=⟨_,rfl⟩
 have e0:cellsAt S0 0=some (surC s):=by rw [← hS0];rfl
 have e1:cellsAt S0 1=some [.int .i64 0,.int .i64 0]:=by rw [← hS0];rfl
 have e2:cellsAt S0 2=some [.int .i64 p,.int .i64 q]:=by rw [← hS0];rfl
 have e3:cellsAt S0 3=some [.int .i64 s.stations,.nilS]:=by rw [← hS0];rfl
 have e4:cellsAt S0 4=some [M]:=by rw [← hS0];rfl
 have e5:cellsAt S0 (X.length+1+1+1+1+1)=some [.nilS]:=by rw [← hS0];exact c1 _ _ _ _ _ _
 have hl0:S0.length=X.length+6:=by rw [← hS0];simp
 rw [hS0]
 have hd:(lesB s q p s.sights).length≤1000:=by rw [lesB_len];have:=hv.many;omega
 refine zCe (E:=E _) (R:=fun e S'=>e=.ret (.int .i64 0) ∧ ∃ Hh W nt tk,S'=⟨Hh,nt,tk⟩∧cellsAt Hh (X.length+1+1+1+1+1)=some [W]∧cellsAt Hh 1=some [.int .i64 0,.int .i64 0]∧cellsAt Hh 2=some [.int .i64 p,.int .i64 q]∧Own (ints (evenL s)) (Lv.num s) W nt tk) n92 (try_ac (S:=⟨S0,nt,tk⟩) n93 (least1_ac s h (lesB s q p s.sights) hd (lesB_ok h b1 ⟨b2,b3⟩) hkn hsq M _ nt tk hsub 3 4 0 (X.length+1+1+1+1+1) (zAn e3 _) (zAn e4 _) (zAn e0 _) (zAn e5 _) (by omega)) ?_ ?_) ?_ ?_
 ·rintro v S' ⟨e,Hh,W,nt',tk',rfl,d1,d3,hO⟩
  refine ⟨?_,rfl,Hh,W,nt',tk',rfl,d1, ?_, ?_,hO⟩
  ·rw [d3 S0.length (by simp) (by omega)]
   exact zAf _ _
  ·rw [d3 1 (by simp;omega) (by omega)];exact zAn e1 _
  ·rw [d3 2 (by simp;omega) (by omega)];exact zAn e2 _
 ·rintro v S' ⟨e,_⟩
  cases e
 ·rintro v S' ⟨e,Hh,W,nt',tk',rfl,d1,d2,d3,hO⟩
  cases e
  have hlt1:=zDy d2
  have d1':∀ B,cellsAt (setH Hh 1 B) (X.length+1+1+1+1+1)=some [W]:=fun B=>by rw [zBz hlt1 (by omega)];exact d1
  have d2':∀ B,cellsAt (setH Hh 1 (.cells B)) 1=some B:=fun B=>cells_self hlt1
  simp only [go_sem,d1,d2,d3,zB,zD,zC,reduceIte,reduceCtorEq,zA]
  have hlt2:=zDy d1
  refine ⟨[X.length+1+1+1+1+1],fun i hi=>by simp only [qL] at hi;subst hi;exact hlt2, ?_⟩
  simp only [go_sem,preZ,QOpZ,guardM,isW,d1,d2,d3,zB,zD,zC,reduceIte,reduceCtorEq,zA]
  refine ⟨rfl,trivial, ?_⟩
  refine ⟨lone _ _,_,lone_sees d1,by simp only [go_sem,lone_at,zB,zD,zC,reduceIte,reduceCtorEq,zA];all_goals rfl,rfl, ?_⟩
  simp only [yS,yM,Res.app]
  simp only [go_sem,d1,d2,d3,d1',d2',zAd,AV.cells,AV.one,zK,zM,zJ,splice,and_self,zH,zG,Res.app,Res.ok,zB,zD,zC,reduceIte,reduceCtorEq,zA]
  refine ⟨fun i B v e=>by cases e;simp only [qL];omega, ?_⟩
  simp only [resA,Tryz.f32]
  simp only [go_sem,d1,d2',d1',zB,zD,zC,reduceIte,reduceCtorEq,zA]
  refine ⟨_,rfl,frz_three (.same _) ?_ (.same _)⟩
  have:=hO.frz (setH Hh 1 (.cells [.int .i64 p,.int .i64 q]))
  have hlen:(evenL s).length=Lv.num s:=by simp [evenL]
  rw [← hlen] at this
  exact this
 ·intro v S' h
  cases h.1
end Go.Av.Lx
end
section
set_option maxHeartbeats 2000000
namespace Go.Av.Lx
open Go Go.Av Go.Av.Tb Go.Av.Fx Go.Proofs
open Go.Lv (Sight Survey Sw Sv SightOk Stp bgS enS riseS stpD chainB closedB sightAt flip)
open Go.Fw (Sq ent Bd Mat)
theorem un_neg (n:Int):unA .neg (.int .i64 n)=some (.int .i64 (IntKind.i64.wrap (0 - n))):=rfl
@[go_sem] theorem bd_stp (a:Int) (b:Bool):buildA T 127 [(0,.int .i64 a),(1,.bool b)]=some (.agg [.int .i64 a,.bool b]):=rfl
theorem sgts_cell (l:List Sight) (k j:Nat) (h:k<l.length) (hj:j<4):(sgts l)[k * 4+j]? = (sgtC l[k])[j]?:=by
 rw [← zBy l k h,List.getElem?_take_of_lt hj,List.getElem?_drop]
theorem sight_get {s:Survey} {k:Nat} (h:k<s.sights.length):sightAt s k=s.sights[k]:=by
 unfold sightAt
 rw [qQ,zI,zF h];rfl
abbrev InS (s:Survey) (x:Stp):Prop:=0≤x.sight∧x.sight<s.sights.length
theorem enS_flip (s:Survey) (i:Int) (b:Bool):bgS s ⟨i,!b⟩=enS s ⟨i,b⟩:=by unfold bgS enS;cases b <;> rfl
theorem begins_pc (s:Survey) (x:Stp) (hx:InS s x):PC Tryz.prog 137 [surA s,.agg (stpC x)] (.pure (.int .i64 (bgS s x))):=by
 refine PC.of_empty (AC.run (E_ok _) mix Tryz.func137 m137 rfl rfl rfl (zE rfl) ?_) (by simp [bndL,AV.bnd]) rfl
 obtain ⟨i,b⟩:=x
 obtain ⟨k,rfl⟩:∃ k:Nat,i=k:=⟨i.toNat,by have:=hx.1;simp only at this;omega⟩
 have h2:(k:Int)<s.sights.length:=hx.2
 have hk:k<s.sights.length:=by omega
 have k2:0≤(k:Int)∧(k:Int)<s.sights.length:=by omega
 have g0:(sgts s.sights)[k * 4+0]? = some (.int .i64 s.sights[k].frm):=sgts_cell s.sights k 0 hk (by decide)
 have g1:(sgts s.sights)[k * 4+1]? = some (.int .i64 s.sights[k].to):=sgts_cell s.sights k 1 hk (by decide)
 unfold bgS
 rw [sight_get hk]
 cases b
 ·simp only [go_sem,boxA,k2,zAg,and_self,g0,Tryz.f137,zB,zD,zC,reduceIte,reduceCtorEq,zA]
  all_goals rfl
 ·simp only [go_sem,boxA,k2,zAg,and_self,g1,Tryz.f137,zB,zD,zC,reduceIte,reduceCtorEq,zA]
  all_goals rfl
theorem ends_pc (s:Survey) (x:Stp) (hx:InS s x):PC Tryz.prog 136 [surA s,.agg (stpC x)] (.pure (.int .i64 (enS s x))):=by
 refine PC.of_empty (AC.run (E_ok _) mix Tryz.func136 m136 rfl rfl rfl (zE rfl) ?_) (by simp [bndL,AV.bnd]) rfl
 obtain ⟨i,b⟩:=x
 have h:=begins_pc s ⟨i,!b⟩ hx
 rw [enS_flip] at h
 simp only [go_sem,boxA,zAi,zAd,AV.cells,AV.one,zK,zM,zJ,splice,zH,zG,and_self,zB,zD,zC,reduceIte,reduceCtorEq,zA]
 refine cp n137 h (SubL.refl _) ?_
 simp only [go_sem,Tryz.f136,zB,zD,zC,reduceIte,reduceCtorEq,zA]
 all_goals rfl
def upSt (s:Survey) (x:Stp):Int:=(Lv.stepB s x).m
theorem rises_pc (s:Survey) (hs:Sw s) (x:Stp) (hx:InS s x):PC Tryz.prog 135 [surA s,.agg (stpC x)] (.pure (.int .i64 (upSt s x))):=by
 refine PC.of_empty (AC.run (E_ok _) mix Tryz.func135 m135 rfl rfl rfl (zE rfl) ?_) (by simp [bndL,AV.bnd]) rfl
 obtain ⟨i,b⟩:=x
 obtain ⟨k,rfl⟩:∃ k:Nat,i=k:=⟨i.toNat,by have:=hx.1;simp only at this;omega⟩
 have h2:(k:Int)<s.sights.length:=hx.2
 have hk:k<s.sights.length:=by omega
 have k2:0≤(k:Int)∧(k:Int)<s.sights.length:=by omega
 have k3:k * 4+4≤(sgts s.sights).length:=by rw [zAx];omega
 have k5:=zBy s.sights k hk
 have hso:=hs.sights _ (qA hk)
 have hb:=hso.rise
 have hb2:=hso.off
 have w1:IntKind.i64.wrap (s.sights[k].rise+s.sights[k].off)=s.sights[k].rise+s.sights[k].off:=wrap64 (by omega)
 have w2:IntKind.i64.wrap (s.sights[k].off - s.sights[k].rise)=s.sights[k].off - s.sights[k].rise:=wrap64 (by omega)
 have hB:=zDq s.sights[k]
 have z0:(0:Int)≤0∧(0:Int)<((2:Nat):Int):=by decide
 have z1:(0:Int)≤1∧(1:Int)<((2:Nat):Int):=by decide
 unfold upSt Lv.stepB Lv.stepG
 rw [sight_get hk]
 unfold Lv.upS Lv.downS
 unfold sB bnds at hB
 rw [w1,w2] at hB
 generalize s.sights[k]=y at *
 simp only [go_sem,boxA,k2,k3,k5,zAg,and_self,zB,zD,zC,reduceIte,reduceCtorEq,zA]
 have hB':PC Tryz.prog 91 [.agg (sgtC y)] (.pure (.slice [.int .i64 y.frm,.int .i64 y.to,.int .i64 (y.rise+y.off),.int .i64 y.to,.int .i64 y.frm,.int .i64 (y.off - y.rise)] 2 .exact)):=hB
 refine cp n91 hB' (SubL.refl _) ?_
 cases b
 ·simp only [go_sem,z0,Int.toNat_zero,Nat.zero_mul,Tryz.f135,zB,zD,zC,reduceIte,reduceCtorEq,zA]
  all_goals rfl
 ·simp only [go_sem,z1,Int.toNat_one,Nat.one_mul,Tryz.f135,zB,zD,zC,reduceIte,reduceCtorEq,zA]
  all_goals rfl
theorem stp_getD {l:List Stp} {k:Nat} (h:k<l.length):l.getD k stpD=l[k]:=by rw [zI,zF h];rfl
set_option maxHeartbeats 2000000

end Go.Av.Lx
end
section
set_option maxHeartbeats 2000000
namespace Go.Av.Lx
open Go Go.Av Go.Av.Tb Go.Av.Fx Go.Proofs
open Go.Lv (Sight Survey Sw Sv SightOk Stp bgS enS riseS riseL stpD chainB closedB stpAt goesB greater worstF FrQ redF)
open Go.Fw (Sq ent Bd Mat)
@[go_sem] theorem bs_stp (a:Int) (b:Bool):zAe T 117 1 [(0,.agg [.int .i64 a,.bool b])]=some (.slice [.int .i64 a,.bool b] 1 .exact):=rfl
theorem stps_one (l:List Stp):(stpsC l).all AV.one=true:=cat_one (f:=stpC) (fun _=>rfl) l
theorem stps_snoc (l:List Stp) (x:Stp):stpsC l ++ [.int .i64 x.sight,.bool x.back]=stpsC (l ++ [x]):=cat_snoc (f:=stpC) l x
end Go.Av.Lx
end
section
set_option maxHeartbeats 2000000
namespace Go.Av.Lx
open Go Go.Av Go.Av.Tb Go.Av.Fx Go.Proofs
open Go.Lv (Sight Survey Sw Sv SightOk Stp errF evenB redF RedP worstF FrQ)
open Go.Fw (Sq ent Bd Mat)

end Go.Av.Lx
end
section
set_option maxHeartbeats 2000000
namespace Go.Av.Lx
open Go Go.Av Go.Av.Tb Go.Av.Fx Go.Proofs
open Go.Lv (Sight Survey Sw Sv SightOk Try TryOk sum2 sum3 withL allowsB tried riseAt worstAt worstW)
open Go.Fw (Sq ent Bd Mat)
abbrev Sm (a:Int):Prop:=a<far → -1000000≤a∧a≤1000000
theorem sum2_eq {a b:Int} (ha:Sm a) (hb:Sm b):sumF 0 [a,b]=sum2 a b:=by
 have ef:far=1099511627776:=rfl
 have ef2:Lv.far=1099511627776:=rfl
 unfold sumF sumF sumF sum2
 by_cases h1:a ≥ far
 ·rw [if_pos h1,if_pos (.inl h1)];rfl
 have k1:=ha (by omega)
 have w1:IntKind.i64.wrap (0+a)=a:=by rw [Int.zero_add];exact wrap64 (by omega)
 rw [if_neg h1,w1]
 by_cases h2:b ≥ far
 ·rw [if_pos h2,if_pos (.inr h2)];rfl
 have k2:=hb (by omega)
 rw [if_neg h2,if_neg (by omega)]
 exact wrap64 (by omega)
theorem sum3_eq {a b c:Int} (ha:Sm a) (hb:Sm b) (hc:Sm c):sumF 0 [a,b,c]=sum3 a b c:=by
 have ef:far=1099511627776:=rfl
 have ef2:Lv.far=1099511627776:=rfl
 unfold sumF sumF sumF sumF sum3
 by_cases h1:a ≥ far
 ·rw [if_pos h1,if_pos (.inl h1)];rfl
 have k1:=ha (by omega)
 have w1:IntKind.i64.wrap (0+a)=a:=by rw [Int.zero_add];exact wrap64 (by omega)
 rw [if_neg h1,w1]
 by_cases h2:b ≥ far
 ·rw [if_pos h2,if_pos (.inr (.inl h2))];rfl
 have k2:=hb (by omega)
 have w2:IntKind.i64.wrap (a+b)=a+b:=wrap64 (by omega)
 rw [if_neg h2,w2]
 by_cases h3:c ≥ far
 ·rw [if_pos h3,if_pos (.inr (.inr h3))];rfl
 have k3:=hc (by omega)
 rw [if_neg h3,if_neg (by omega)]
 exact wrap64 (by omega)
theorem sm_ent {s:Survey} (h:Sw s) {V:Mat} (hV:Lv.knownV s=some V) {i j:Nat} (hi:i<Lv.num s) (hj:j<Lv.num s):Sm (ent V i j):=fun hf=>by
 have:=Lv.known_bd h hV hi hj hf
 omega
@[go_sem] theorem bs_int2 (a b:Int):zAe T 32 2 [(0,.int .i64 a),(1,.int .i64 b)]=some (.slice [.int .i64 a,.int .i64 b] 2 .exact):=rfl
@[go_sem] theorem bs_int3 (a b c:Int):zAe T 32 3 [(0,.int .i64 a),(1,.int .i64 b),(2,.int .i64 c)]=some (.slice [.int .i64 a,.int .i64 b,.int .i64 c] 3 .exact):=rfl
structure BoS (n:Nat) (x:Bound):Prop where
 a:0≤x.a∧x.a<n
 b:0≤x.b∧x.b<n
 most:-1000000≤x.most∧x.most≤1000000
theorem allows1_pc (s:Survey) (h:Sw s) {V:Mat} (hV:Lv.knownV s=some V) (x:Bound) (hx:BoS (Lv.num s) x):PC Tryz.prog 177 [.agg (bndC x),.eptr (kvC s (wS V)) 0] (.pure (.bool (decide (sum2 (ent V x.b.toNat x.a.toNat) x.most<0)))):=by
 refine PC.of_empty (AC.run (E_ok _) mix Tryz.func177 m177 rfl rfl rfl (zE rfl) ?_) (by simp [bndL,AV.bnd]) rfl
 have hsq:Sq (Lv.num s) V:=zBl (ds:=[]) hV
 obtain ⟨a,b,m⟩:=x
 have h1:=hx.a;have h2:=hx.b;have h3:=hx.most
 simp only at h1 h2 h3
 obtain ⟨a,rfl⟩:∃ a':Nat,a=a':=⟨a.toNat,by omega⟩
 obtain ⟨b,rfl⟩:∃ b':Nat,b=b':=⟨b.toNat,by omega⟩
 have ha:a<Lv.num s:=by omega
 have hb:b<Lv.num s:=by omega
 have hs:=sum2_eq (sm_ent h hV hb ha) (fun _=>h3)
 simp only [qQ]
 have hf:=Lv.sum2 (ent V b a) m
 have ga:=zDo hsq hb
 have gl:=hsq.getD hb
 have e:=zBf hsq hb ha
 have xa:0≤(b:Int)∧(b:Int)<(V.length:Int):=by have:=hsq.1;omega
 have xb:0≤(a:Int)∧(a:Int)<(Lv.num s:Int):=by omega
 have hsum:=sum_pc' [ent V b a,m] (by show 2<9223372036854775807;decide)
 rw [hs] at hsum
 simp only [go_sem,boxA,xa,xb,ga,gl,e,zAg,and_self,zB,zD,zC,reduceIte,reduceCtorEq,zA]
 refine cp n151 hsum (SubL.cons (Sub.unk _ 2 .exact) (SubL.refl [])) ?_
 simp only [go_sem,Tryz.f177,zB,zD,zC,reduceIte,reduceCtorEq,zA]
theorem sB_two {n:Int} {y:Sight} (hy:SightOk n y):sB y=[⟨y.frm,y.to,y.rise+y.off⟩,⟨y.to,y.frm,y.off - y.rise⟩]:=by
 have h1:=hy.rise;have h2:=hy.off
 have w1:IntKind.i64.wrap (y.rise+y.off)=y.rise+y.off:=wrap64 (by omega)
 have w2:IntKind.i64.wrap (y.off - y.rise)=y.off - y.rise:=wrap64 (by omega)
 simp only [sB,w1,w2]
theorem sB_bos {s:Survey} (h:Sw s) {y:Sight} (hy:SightOk s.stations y):∀ x∈sB y,BoS (Lv.num s) x:=by
 have hst:s.stations=(Lv.num s:Int):=by have:=h.st;show _=((s.stations.toNat:Nat):Int);omega
 have h1:=hy.rise;have h2:=hy.off;have h3:=hy.frm;have h4:=hy.to
 rw [sB_two hy]
 intro x hx
 simp only [yL,yE,or_false] at hx
 rcases hx with rfl | rfl
 ·exact ⟨by show 0≤y.frm∧y.frm<_;omega,by show 0≤y.to∧y.to<_;omega,by show -1000000≤y.rise+y.off∧y.rise+y.off≤_;omega⟩
 ·exact ⟨by show 0≤y.to∧y.to<_;omega,by show 0≤y.frm∧y.frm<_;omega,by show -1000000≤y.off - y.rise∧y.off - y.rise≤_;omega⟩
theorem allows_pc (s:Survey) (h:Sw s) {V:Mat} (hV:Lv.knownV s=some V) (y:Sight) (hy:SightOk s.stations y):PC Tryz.prog 158 [kA s V,.agg (sgtC y)] (.pure (.bool (allowsB V y))):=by
 refine PC.of_empty (AC.run (E_ok _) mix Tryz.func158 m158 rfl rfl rfl (zE rfl) ?_) (by simp [bndL,AV.bnd]) rfl
 have hC:=containsFuncB_pc (sB y) (by show 2<9223372036854775807;decide) 177 n177 [.eptr (kvC s (wS V)) 0] (by simp [bndL,AV.bnd]) (fun x=>decide (sum2 (ent V x.b.toNat x.a.toNat) x.most<0)) (fun x hx=>allows1_pc s h hV x (sB_bos h hy x hx))
 have hany:(!(sB y).any fun x=>decide (sum2 (ent V x.b.toNat x.a.toNat) x.most<0))=allowsB V y:=by
  rw [sB_two hy]
  unfold allowsB
  simp
 simp only [go_sem,boxA,zB,zD,zC,reduceIte,reduceCtorEq,zA]
 refine cp n91 (zDq y) (SubL.refl _) ?_
 simp only [go_sem,zB,zD,zC,reduceIte,reduceCtorEq,zA]
 refine cl n176 hC (LntL.cons (.unk _ 2 .exact (bnds_bnd _ _ _)) (LntL.cons (Lnt.func1 (.ptr 0 0 _ rfl (by simp [bndL,AV.bnd]))) (LntL.nil _))) rfl ?_
 simp only [go_sem,zAi,hany,Tryz.f158,zB,zD,zC,reduceIte,reduceCtorEq,zA]
theorem with_draw {s:Survey} (h:Sw s) {V:Mat} (hV:Lv.knownV s=some V) {i j:Nat} (hi:i<Lv.num s) (hj:j<Lv.num s) (x:Bound) (hx:BoS (Lv.num s) x) (w:Int) (B N K:AV) (L:Nat) (H:List (Option Blk)) (nt:Nat) (tk:List Nat) (c0:cellsAt H 0=some (kvC s (wS V))) (cL:cellsAt H L=some (bndC x)) (Q:AQ)
  (hQ:Q .normal [(2,.int .i64 i),(3,.int .i64 j),(4,.ref 0 0),(9,.int .i64 (min w (sum3 (ent V i x.a.toNat) x.most (ent V x.b.toNat j)))),(21,B),(22,N),(23,K)] ⟨H,nt,tk⟩) :
  WC (E 53) (.draw [2,3,4,9,21,22,23] 23 [] r159_5) Q [(2,.int .i64 i),(3,.int .i64 j),(4,.ref 0 0),(9,.int .i64 w),(21,B),(22,N),(23,K),(11,.ref L 0)] ⟨H,nt,tk⟩:=by
 have hsq:Sq (Lv.num s) V:=zBl (ds:=[]) hV
 obtain ⟨a,b,m⟩:=x
 have h1:=hx.a;have h2:=hx.b;have h3:=hx.most
 simp only at h1 h2 h3
 obtain ⟨a,rfl⟩:∃ a':Nat,a=a':=⟨a.toNat,by omega⟩
 obtain ⟨b,rfl⟩:∃ b':Nat,b=b':=⟨b.toNat,by omega⟩
 have ha:a<Lv.num s:=by omega
 have hb:b<Lv.num s:=by omega
 have hs:=sum3_eq (sm_ent h hV hi ha) (fun _=>h3) (sm_ent h hV hb hj)
 simp only [qQ] at hQ
 have hsum:=sum_pc' [ent V i a,m,ent V b j] (by show 3<9223372036854775807;decide)
 rw [hs] at hsum
 generalize sum3 (ent V i a) m (ent V b j)=z at *
 have hmn:(if z<w then z else w)=min w z:=by split <;> omega
 have ga:=zDo hsq hi
 have gl:=hsq.getD hi
 have ea:=zBf hsq hi ha
 have gb:=zDo hsq hb
 have gm:=hsq.getD hb
 have eb:=zBf hsq hb hj
 have xi:0≤(i:Int)∧(i:Int)<(V.length:Int):=by have:=hsq.1;omega
 have xb:0≤(b:Int)∧(b:Int)<(V.length:Int):=by have:=hsq.1;omega
 have xa:0≤(a:Int)∧(a:Int)<(Lv.num s:Int):=by omega
 have xj:0≤(j:Int)∧(j:Int)<(Lv.num s:Int):=by omega
 simp only [go_sem,c0,cL,xi,xb,xa,xj,ga,gl,ea,gb,gm,eb,zAg,and_self,zB,zD,zC,reduceIte,reduceCtorEq,zA]
 refine qp n151 hsum (SubL.cons (Sub.unk _ 3 .exact) (SubL.refl [])) ?_
 simp only [go_sem,zAa,minsA,hmn,zB,zD,zC,reduceIte,reduceCtorEq,zA]
 exact hQ
end Go.Av.Lx
end
section
set_option maxHeartbeats 2000000
namespace Go.Av.Lx
open Go Go.Av Go.Av.Tb Go.Av.Fx Go.Proofs
open Go.Lv (Sight Survey Sw Sv SightOk Try TryOk sum2 sum3 withL allowsB tried riseAt worstAt worstW bestAt)
open Go.Fw (Sq ent Bd Mat)
@[go_sem] theorem bd_lsight (a b c d:Int):buildA T 85 [(0,.int .i64 a),(1,.int .i64 b),(2,.int .i64 c),(3,.int .i64 d)]=some (.agg [.int .i64 a,.int .i64 b,.int .i64 c,.int .i64 d]):=rfl
theorem with_pc (s:Survey) (h:Sw s) {V:Mat} (hV:Lv.knownV s=some V) (y:Sight) (hy:SightOk s.stations y) {i j:Nat} (hi:i<Lv.num s) (hj:j<Lv.num s):PC Tryz.prog 159 [kA s V,.agg (sgtC y),.int .i64 i,.int .i64 j] (.pure (.int .i64 (withL V y i j))):=by
 refine PC.of_empty (AC.run (E_ok _) mix Tryz.func159 m159 rfl rfl rfl (zE rfl) ?_) (by simp [bndL,AV.bnd]) rfl
 have hsq:Sq (Lv.num s) V:=zBl (ds:=[]) hV
 have ga:=zDo hsq hi
 have gl:=hsq.getD hi
 have e:=zBf hsq hi hj
 have xa:0≤(i:Int)∧(i:Int)<(V.length:Int):=by have:=hsq.1;omega
 have xb:0≤(j:Int)∧(j:Int)<(Lv.num s:Int):=by omega
 obtain ⟨F,hF⟩:∃ F:Int→Bound→Int,F=fun w x=>min w (sum3 (ent V i x.a.toNat) x.most (ent V x.b.toNat j)):=⟨_,rfl⟩
 have hres:withL V y i j=(sB y).foldl F (ent V i j):=by rw [sB_two hy,hF];rfl
 have hbos:=sB_bos h hy
 have hl2:(sB y).length=2:=rfl
 rw [hres]
 simp only [go_sem,boxA,xa,xb,ga,gl,e,zAg,and_self,zB,zD,zC,reduceIte,reduceCtorEq,zA]
 refine cp n91 (zDq y) (SubL.refl _) ?_
 have hlen:zAa T St.empty .len [138] [.slice (bnds (sB y)) 2 .exact]=some (.pure (.int .i64 (2:Nat))):=rfl
 simp only [go_sem,zAa,zB,zD,zC,reduceIte,reduceCtorEq,zA]
 refine wc_forE 2 (fun k=>[(2,.int .i64 i),(3,.int .i64 j),(4,.ref 0 0),(9,.int .i64 (((sB y).take k).foldl F (ent V i j))),(21,.slice (bnds (sB y)) 2 .exact),(22,.int .i64 (2:Nat)),(23,.int .i64 (k:Nat))])
  (fun k S => ∃ X,S=⟨[some (.cells (kvC s (wS V))),some (.cells (sgtC y))] ++ X,0,[]⟩) rfl ⟨[],rfl⟩ ?_
 rintro k hk S ⟨X,rfl⟩ I hI
 by_cases hlt:k<2
 ·have h1:(k:Int)<(2:Nat):=by omega
  have h2:0≤(k:Int)∧(k:Int)<(2:Nat):=by omega
  have h3:k * 3+3≤(bnds (sB y)).length:=by rw [bnds_len,hl2];omega
  have h4:IntKind.i64.wrap ((k:Int)+1)=(k+1:Nat):=wrap64 (by omega)
  have h5:=bnds_at (sB y) k (by rw [hl2];exact hlt)
  have hx:=hbos _ (qA (by rw [hl2];exact hlt:k<(sB y).length))
  have hI:=hI hlt
  rw [zDb _ _ _ _ (by rw [hl2];exact hlt)] at hI
  have c1:=fun l=>zAf X l
  have c2:=fun x B=>zAt X x B
  generalize ((sB y).take k).foldl F (ent V i j)=w at *
  generalize (sB y)[k]=x at *
  obtain ⟨D,hD⟩:∃ D,MC.draw [2,3,4,9,21,22,23] 23 [] r159_5=D:=⟨_,rfl⟩
  unfold l159_0
  rw [hD]
  simp only [go_sem,h1,decide_true,h2,h3,h5,zAg,and_self,c1,c2,zAd,AV.cells,AV.one,zK,zM,zJ,splice,zH,zG,zB,zD,zC,reduceIte,reduceCtorEq,zA]
  subst hD
  refine with_draw h hV hi hj x hx w _ _ _ _ _ _ _ rfl ?_ _ ?_
  ·exact zAf (some (.cells (kvC s (wS V))) :: some (.cells (sgtC y)) :: X) _
  simp only [go_sem,h4,zB,zD,zC,reduceIte,reduceCtorEq,zA]
  rw [hF] at hI
  exact hI _ ⟨X ++ [some (.cells (bndC x))],rfl⟩
 ·have h1:¬ (k:Int)<(2:Nat):=by omega
  have ek:k=2:=by omega
  subst ek
  have e2:(sB y).take 2=sB y:=rfl
  rw [e2]
  simp only [go_sem,l159_0,h1,decide_false,Tryz.f159,zB,zD,zC,reduceIte,reduceCtorEq,zA]
theorem withL_bd {s:Survey} (h:Sw s) {V:Mat} (hV:Lv.knownV s=some V) {y:Sight} (hy:SightOk s.stations y) (ha:allowsB V y=true) {i j:Nat} (hi:i<Lv.num s) (hj:j<Lv.num s) (hf:ent V i j<far):-8400≤withL V y i j∧withL V y i j≤8400:=by
 have hk:=Lv.with_known h hy hV
 rw [ha] at hk
 cases hV':Lv.knownV (Lv.withS s y) with
 | none=>rw [hV'] at hk;cases hk
 | some V' =>
  have e:=Lv.with_ent h hy hV hV' hi hj hf
  have hle:withL V y i j≤ent V i j:=by unfold withL;omega
  have:=Lv.known_bd (Lv.with_sw h hy) hV' (i:=i) (j:=j) hi hj (by rw [e];exact Int.lt_of_le_of_lt hle hf)
  rw [e] at this
  exact this
theorem tryWorst_pc (s:Survey) (h:Sw s) {V:Mat} (hV:Lv.knownV s=some V) (x:Try) (hx:TryOk s.stations x) {i j:Nat} (hi:i<Lv.num s) (hj:j<Lv.num s) (hf:ent V i j<far):PC Tryz.prog 116 [kA s V,.agg (tryC x),.int .i64 i,.int .i64 j] (.pure (.int .i64 (worstW V x i j))):=by
 refine PC.of_empty (AC.run (E_ok _) mix Tryz.func116 m116 rfl rfl rfl (zE rfl) ?_) (by simp [bndL,AV.bnd]) rfl
 have hf2:=Lv.known_sym h hV hi hj hf
 have b1:=Lv.known_bd h hV hi hj hf
 have b2:=Lv.known_bd h hV hj hi hf2
 have hsq:Sq (Lv.num s) V:=zBl (ds:=[]) hV
 simp only [go_sem,boxA,zB,zD,zC,reduceIte,reduceCtorEq,zA]
 refine wc_forE 2001 (fun k=>[(2,.int .i64 i),(3,.int .i64 j),(4,.ref 0 0),(5,.ref 1 0),(9,.int .i64 (worstAt V x i j k)),(10,.int .i64 (riseAt k))])
  (fun k S => ∃ X,S=⟨[some (.cells (kvC s (wS V))),some (.cells (tryC x))] ++ X,0,[]⟩) rfl ⟨[],rfl⟩ ?_
 rintro k hk S ⟨X,rfl⟩ I hI
 by_cases hlt:k<2001
 ·have h1:riseAt k≤1000:=by unfold riseAt;omega
  have h4:IntKind.i64.wrap (riseAt k+1)=riseAt (k+1):=by unfold riseAt;rw [wrap64 (by omega)];omega
  have hr:-1000≤riseAt k∧riseAt k≤1000:=⟨by unfold riseAt;omega,h1⟩
  have hy:=Lv.tried_ok hx hr
  have hI:=hI hlt
  have hw:worstAt V x i j (k+1)=if allowsB V (tried x (riseAt k))=true then max (worstAt V x i j k) (withL V (tried x (riseAt k)) i j+withL V (tried x (riseAt k)) j i) else worstAt V x i j k:=rfl
  rw [hw,← h4] at hI
  have hap:=allows_pc s h hV _ hy
  have hwp1:=with_pc s h hV _ hy hi hj
  have hwp2:=with_pc s h hV _ hy hj hi
  have hbd1:=fun ha=>withL_bd h hV hy ha hi hj hf
  have hbd2:=fun ha=>withL_bd h hV hy ha hj hi hf2
  have ht:sgtC (tried x (riseAt k))=[.int .i64 x.frm,.int .i64 x.to,.int .i64 (riseAt k),.int .i64 x.off]:=rfl
  rw [ht] at hap hwp1 hwp2
  generalize tried x (riseAt k)=y at *
  generalize riseAt k=r at *
  generalize worstAt V x i j k=w at *
  have c1:=fun l=>zAf X l
  have c2:=fun x B=>zAt X x B
  simp only [go_sem,l116_0,h1,decide_true,c1,c2,zAd,AV.cells,AV.one,zK,zM,zJ,splice,zH,zG,and_self,zB,zD,zC,reduceIte,reduceCtorEq,zA]
  refine cp n158 hap (SubL.refl _) ?_
  cases ha:allowsB V y
  ·rw [ha,if_neg (by decide)] at hI
   simp only [go_sem,zB,zD,zC,reduceIte,reduceCtorEq,zA]
   exact hI _ ⟨X ++ [some (.cells [.int .i64 x.frm,.int .i64 x.to,.int .i64 r,.int .i64 x.off])],rfl⟩
  ·rw [ha,if_pos rfl] at hI
   have a1:=hbd1 ha
   have a2:=hbd2 ha
   have wz:IntKind.i64.wrap (withL V y i j+withL V y j i)=withL V y i j+withL V y j i:=wrap64 (by omega)
   have hmx:(if withL V y i j+withL V y j i > w then withL V y i j+withL V y j i else w)=max w (withL V y i j+withL V y j i):=by split <;> omega
   simp only [go_sem,c1,zB,zD,zC,reduceIte,reduceCtorEq,zA]
   refine qp n159 hwp1 (SubL.refl _) ?_
   simp only [go_sem,c1,zB,zD,zC,reduceIte,reduceCtorEq,zA]
   refine qp n159 hwp2 (SubL.refl _) ?_
   simp only [go_sem,wz,zAa,maxsA,hmx,zB,zD,zC,reduceIte,reduceCtorEq,zA]
   exact hI _ ⟨X ++ [some (.cells [.int .i64 x.frm,.int .i64 x.to,.int .i64 r,.int .i64 x.off])],rfl⟩
 ·have h1:¬ riseAt k≤1000:=by unfold riseAt;omega
  have ek:k=2001:=by omega
  subst ek
  unfold worstW
  by_cases hn:worstAt V x i j 2001<0
  ·rw [if_pos hn]
   have ga:=zDo hsq hi
   have gl:=hsq.getD hi
   have ea:=zBf hsq hi hj
   have gb:=zDo hsq hj
   have gm:=hsq.getD hj
   have eb:=zBf hsq hj hi
   have xi:0≤(i:Int)∧(i:Int)<(V.length:Int):=by have:=hsq.1;omega
   have xb:0≤(j:Int)∧(j:Int)<(V.length:Int):=by have:=hsq.1;omega
   have xa:0≤(i:Int)∧(i:Int)<(Lv.num s:Int):=by omega
   have xj:0≤(j:Int)∧(j:Int)<(Lv.num s:Int):=by omega
   have wz:IntKind.i64.wrap (ent V i j+ent V j i)=ent V i j+ent V j i:=wrap64 (by omega)
   simp only [go_sem,l116_0,h1,decide_false,hn,decide_true,zB,zD,zC,reduceIte,reduceCtorEq,zA]
   simp only [go_sem,xi,xb,xa,xj,ga,gl,ea,gb,gm,eb,zAg,and_self,wz,Tryz.f116,zB,zD,zC,reduceIte,reduceCtorEq,zA]
  ·rw [if_neg hn]
   simp only [go_sem,l116_0,h1,decide_false,hn,Tryz.f116,zB,zD,zC,reduceIte,reduceCtorEq,zA]
end Go.Av.Lx
end
section
set_option maxHeartbeats 2000000
namespace Go.Av.Lx
open Go Go.Av Go.Av.Tb Go.Av.Fx Go.Proofs
open Go.Lv (Sight Survey Sw Sv SightOk Try TryOk worstW bestAt)
open Go.Fw (Sq ent Bd Mat)
def tryD:Try:=⟨0,0,0⟩
theorem try_getD {l:List Try} {k:Nat} (h:k<l.length):l.getD k tryD=l[k]:=by rw [zI,zF h];rfl
def triesB (s:Survey) (l:List Try):Bool:=inB l.length 1 4 && !l.any (badTry s)
def tryW (V:Mat) (l:List Try) (i j:Nat) (k:Nat):Int:=worstW V (l.getD k tryD) i j
def takesA (s:Survey) (i j:Int) (l:List Try):AV:=betwA s i j (triesB s l) [.int .i64 0,.int .i64 0] fun V=>[.int .i64 (bestAt (tryW V l i.toNat j.toNat) (l.length - 1):Nat),.int .i64 (tryW V l i.toNat j.toNat (bestAt (tryW V l i.toNat j.toNat) (l.length - 1)))]
theorem Takes_pc (s:Survey) (hl:okL s.sights.length) (i j:Int) (l:List Try) (hll:okL l.length):PC Tryz.prog 47 [surA s,.int .i64 i,.int .i64 j,triesA l] (.pure (takesA s i j l)):=by
 refine PC.of_empty (AC.run (E_ok _) mix Tryz.func47 m47 rfl rfl rfl (zE rfl) ?_) (by simp [bndL,AV.bnd]) (zEy rfl fun _=>rfl)
 unfold takesA
 obtain ⟨fine,hfine⟩:∃ fine,triesB s l=fine:=⟨_,rfl⟩
 have key:∀ Q:AQ,Q .normal [(1,.int .i64 i),(2,.int .i64 j),(3,triesA l),(4,.ref 0 0),(11,.bool fine)] ⟨[some (.cells (surC s))],0,[]⟩→WC (E 64) (.region [1,2,3,4,11] r47_1) Q [(1,.int .i64 i),(2,.int .i64 j),(3,triesA l),(4,.ref 0 0)] ⟨[some (.cells (surC s))],0,[]⟩:=by
  intro Q hQ
  unfold triesB at hfine
  simp only [go_sem,zAa,zB,zD,zC,reduceIte,reduceCtorEq,zA]
  refine cp n100 (in_pc _ _ _) (SubL.refl _) ?_
  rw [show (decide ((l.length:Int) ≥ 1) && decide ((l.length:Int)≤4))=inB l.length 1 4 from rfl]
  cases h1:inB l.length 1 4
  ·rw [h1,qW] at hfine
   rw [← hfine] at hQ
   simp only [go_sem,zB,zD,zC,reduceIte,reduceCtorEq,zA]
   exact hQ
  rw [h1,qU] at hfine
  have hC:=containsFuncT_pc l hll 114 n114 [.eptr (surC s) 0] (by simp [bndL,AV.bnd]) (badTry s) (fun x _=>takes1_pc s x)
  simp only [go_sem,zB,zD,zC,reduceIte,reduceCtorEq,zA]
  refine cl n113 hC (LntL.cons (.same _ (by simp [AV.bnd])) (LntL.cons (Lnt.func1 (.ptr 0 0 _ rfl (by simp [bndL,AV.bnd]))) (LntL.nil _))) rfl ?_
  simp only [go_sem,zAi,hfine,zB,zD,zC,reduceIte,reduceCtorEq,zA]
  exact hQ
 obtain ⟨C,hC⟩:∃ C,MC.region [1,2,3,4,11] r47_1=C:=⟨_,rfl⟩
 unfold c47
 rw [hC]
 simp only [go_sem,boxA,zB,zD,zC,reduceIte,reduceCtorEq,zA]
 subst hC
 refine key _ ?_
 simp only [go_sem,zB,zD,zC,reduceIte,reduceCtorEq,zA]
 refine cp n84 (zCj s hl i j fine) (SubL.refl _) ?_
 rcases zDf s i j fine [.int .i64 0,.int .i64 0] (fun V=>[.int .i64 (bestAt (tryW V l i.toNat j.toNat) (l.length - 1):Nat),.int .i64 (tryW V l i.toNat j.toNat (bestAt (tryW V l i.toNat j.toNat) (l.length - 1)))]) with ⟨k,hk,_,e1,e2⟩ | ⟨V,hv,hf,hV,hj,e1,e2⟩
 ·rw [e1,hfine,e2]
  simp only [go_sem,zAc,hk,zAd,AV.cells,AV.one,zK,zM,zJ,splice,zH,zG,and_self,Tryz.f47,zB,zD,zC,reduceIte,reduceCtorEq,zA]
  all_goals rfl
 rw [e1,hfine,e2]
 rw [hf] at hfine
 unfold triesB at hfine
 rw [zR,Bool.not_eq_true'] at hfine
 obtain ⟨hin,hbad⟩:=hfine
 have hlen:1≤l.length∧l.length≤4:=by have:=inB_iff.1 hin;omega
 have htry:∀ x∈l,TryOk s.stations x:=fun x hx=>(try_iff hv.st).1 (by
  have:=List.any_eq_false.1 hbad x hx
  simpa using this)
 have hst:s.stations=(Lv.num s:Int):=by have:=hv.st;show _=((s.stations.toNat:Nat):Int);omega
 have hi:=hj.hi;have hjj:=hj.hj;have he:=hj.e1
 have ef:far=1099511627776:=rfl
 obtain ⟨a,rfl⟩:∃ a:Nat,i=a:=⟨i.toNat,by omega⟩
 obtain ⟨b,rfl⟩:∃ b:Nat,j=b:=⟨j.toNat,by omega⟩
 simp only [qQ] at he ⊢
 have ha:a<Lv.num s:=by omega
 have hb:b<Lv.num s:=by omega
 have hlt:ent V a b<far:=by omega
 clear e1 e2 key
 simp only [go_sem,zAc,kvC,zAa,zAd,AV.cells,AV.one,zK,zM,zJ,splice,zH,zG,and_self,zB,zD,zC,reduceIte,reduceCtorEq,zA]
 refine zAs (fun m ts' S' => ∃ k W nt tk X,k≤l.length∧m=l.length - k∧ts'=[(1,.int .i64 a),(2,.int .i64 b),(12,.ref 1 0),(14,W),(39,triesA l),(40,.int .i64 l.length),(41,.int .i64 (k:Nat))]∧S'=⟨[some (.cells (surC s)),some (.cells (kvC s (wS V)))] ++ X,nt,tk⟩∧Own (chos (tryW V l a b) k) k W nt tk) l.length ⟨0,.nilS,0,[],[],qI _,rfl,rfl,rfl,Own.nil _ _⟩ ?_
 rintro m ts' S' ⟨k,W,nt,tk,X,hk,rfl,rfl,rfl,ho⟩
 have c1:=fun q=>zAf X q
 have c2:=fun x B=>zAt X x B
 by_cases hkl:k<l.length
 ·have k1:(k:Int)<l.length:=by omega
  have k2:0≤(k:Int)∧(k:Int)<l.length:=by omega
  have k3:k * 3+3≤(triesC l).length:=by rw [triesC_len];omega
  have k4:IntKind.i64.wrap ((k:Int)+1)=(k+1:Nat):=wrap64 (by omega)
  have k5:=tries_at l k hkl
  have hx:=htry _ (qA hkl)
  have hw:worstW V l[k] a b=tryW V l a b k:=by unfold tryW;rw [try_getD hkl]
  have hwp:=tryWorst_pc s hv.toSw hV l[k] hx ha hb hlt
  rw [hw] at hwp
  generalize l[k]=x at *
  simp only [go_sem,l47_0,k1,decide_true,k2,k3,k5,zAg,and_self,c1,c2,zAd,AV.cells,AV.one,zK,zM,zJ,splice,zH,zG,kvC,zB,zD,zC,reduceIte,reduceCtorEq,zA]
  refine cp n116 hwp (SubL.refl _) ?_
  simp only [go_sem,zAa,zB,zD,zC,reduceIte,reduceCtorEq,zA]
  refine zCr (lx:=[.int .i64 k,.int .i64 (tryW V l a b k)]) rowChoices ho (chos_len _ _) rfl (by decide) rfl (by omega) fun W' tk' g => ?_
  simp only [go_sem,k4,zB,zD,zC,reduceIte,reduceCtorEq,zA]
  refine zAh (l.length - (k+1)) (by omega) ⟨k+1,W',nt+1,tk',_,hkl,rfl,rfl,rfl, ?_⟩
  have:=g.own
  rw [chos_succ] at this
  exact this
 ·have k1:¬ (k:Int)<l.length:=by omega
  have ek:k=l.length:=by omega
  subst ek
  simp only [go_sem,l47_0,k1,decide_false,zB,zD,zC,reduceIte,reduceCtorEq,zA]
  refine cp n111 (best_pc (tryW V l a b) l.length (by omega) (by omega)) (SubL.cons ho.sub (SubL.refl _)) ?_
  simp only [go_sem,c1,c2,zAd,AV.cells,AV.one,zK,zM,zJ,splice,zH,zG,and_self,Tryz.f47,zB,zD,zC,reduceIte,reduceCtorEq,zA]
  all_goals rfl
end Go.Av.Lx
end
section
set_option maxHeartbeats 2000000
namespace Go.Av.Lx
open Go Go.Av Go.Av.Tb Go.Av.Fx Go.Proofs
open Go.Lv (Sight Survey Sw Sv SightOk Try TryOk worstW bestAt withS tried riseAt widthAt)
open Go.Fw (Sq ent Bd Mat)
theorem app_sgt0 (S:St) (tx:Tail):appendA T S 22 .nilS (.slice [] 0 tx)=some (.pure .nilS):=rfl
theorem sgts_one (l:List Sight):(sgts l).all AV.one=true:=cat_one (f:=sgtC) (fun _=>rfl) l
theorem zFb (l:List Sight) (x:Sight):sgts l ++ sgtC x=sgts (l ++ [x]):=cat_snoc (f:=sgtC) l x
theorem own_sq0s {l:List Sight} (hl:l.length≤100) {b:St} {tx:Tail} {nt:Nat} {toks:List Nat} {H:List (Option Blk)} {K:AV→St→Prop} {hK:Hold K}
  (next:∀ V' nt' toks',nt≤nt'→Own (sgts l) l.length V' nt' toks'→K V' ⟨H,nt',toks'⟩):sq K hK (appendA T b 22 .nilS (.slice (sgts l) l.length tx)) ⟨H,nt,toks⟩:=by
 rcases Nat.eq_zero_or_pos l.length with h | h
 ·have e:l=[]:=List.length_eq_zero_iff.1 h
  subst e
  rw [show sgts []=[] from rfl,zZ,app_sgt0,sq_pure]
  exact next _ _ _ (zN _) (Own.nil _ _)
 ·refine own_sq (l:=[]) (n:=0) zDr (Own.nil _ _) rfl (by rw [zAx];omega) (by omega) (sgts_one l) (by omega) fun V' toks' g => ?_
  have:=g.own
  rw [yJ,Nat.zero_add] at this
  exact next _ _ _ (by omega) this
@[go_sem] theorem bs_sgt (a b c d:Int):zAe T 22 1 [(0,.agg [.int .i64 a,.int .i64 b,.int .i64 c,.int .i64 d])]=some (.slice [.int .i64 a,.int .i64 b,.int .i64 c,.int .i64 d] 1 .exact):=rfl
theorem zDk {h:List (Option Blk)} {a b a' b':AV} (h1:Frz h a a') (h2:Frz h b b'):Frz h (.agg [a,b]) (.agg [a',b']):=
 .agg _ _ rfl fun j x y hx hy=>by
  match j,hx,hy with
  | 0,hx,hy=>simp at hx hy;subst hx;subst hy;exact h1
  | 1,hx,hy=>simp at hx hy;subst hx;subst hy;exact h2
  | j+2,hx,hy=>simp at hx
theorem With_pc (s:Survey) (hl:s.sights.length≤100) (y:Sight):PC Tryz.prog 55 [surA s,.agg (sgtC y)] (.pure (surA (withS s y))):=by
 refine PC.of_frz (AC.run (E_ok _) mix Tryz.func55 m55 rfl rfl rfl (zE rfl) ?_) (by simp [bndL,AV.bnd]) (by simp [bndL,AV.bnd])
 simp only [go_sem,boxA,zAd,AV.cells,AV.one,zK,zM,zJ,splice,zH,zG,and_self,zAa,zB,zD,zC,reduceIte,reduceCtorEq,zA]
 refine own_sq0s hl fun V1 nt1 tk1 _ o1 => ?_
 simp only [go_sem,zAa,zB,zD,zC,reduceIte,reduceCtorEq,zA]
 refine zCr (lx:=sgtC y) zDr o1 (by rw [zAx];omega) rfl (by decide) rfl (by omega) fun V2 tk2 g => ?_
 obtain ⟨q1,q2⟩:=g.own.cells
 have go:=g.own
 rw [zFb] at go
 simp only [go_sem,q1,q2,zAd,zK,zM,zJ,splice,zH,zG,and_self,zB,zD,zC,reduceIte,reduceCtorEq,zA]
 simp only [go_sem,zAd,AV.cells,q2,AV.one,zK,zM,zJ,splice,zH,zG,and_self,Tryz.f55,zB,zD,zC,reduceIte,reduceCtorEq,zA]
 refine ⟨_,rfl,zDk (.same _) ?_⟩
 rw [show (withS s y).sights=s.sights ++ [y] from rfl,qE,List.length_singleton]
 exact go.frz _
end Go.Av.Lx
end
section
set_option maxHeartbeats 2000000
namespace Go.Av.Lx
open Go Go.Av Go.Av.Tb Go.Av.Fx Go.Proofs
open Go.Lv (Sight Survey Sw Sv SightOk Try TryOk worstW bestAt withS tried riseAt widthAt withL)
open Go.Fw (Sq ent Bd Mat)

end Go.Av.Lx
end
