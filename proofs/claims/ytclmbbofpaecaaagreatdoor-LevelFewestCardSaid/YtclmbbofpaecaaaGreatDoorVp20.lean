/- Part 20 of the proof. -/
import Derived.Test.YtclmbbofpaecaaaGreatDoorVp19
set_option linter.all false
set_option linter.unusedVariables false
set_option linter.unusedSimpArgs false
set_option linter.unusedSectionVars false
open Bool renaming and_self → zJ, not_true → zV, not_false → qD, false_and → qG, true_and → yA
open List renaming getElem?_eq_getElem → zF, set_cons_succ → zH, set_cons_zero → zI, all_cons → zL, getElem?_eq_none → zM, all_nil → zO, getElem_mem → zX, length_cons → qB, length_append → qC, take_succ_eq_append_getElem → qF, getElem?_map → qK, getElem?_range → qS, flatMap_cons → qW, not_mem_nil → qY, take_length → qZ, getElem?_set → yC, mem_cons → yK, length_take → yL, range_succ → yN
open Nat renaming reduceLeDiff → zA, reduceEqDiff → zB, reduceAdd → zC, reduceBEq → zD, le_of_ble_eq_true → zE, le_refl → zN, lt_or_ge → zU, zero_le → qH, not_lt_zero → qO, mul_one → yP
open Option renaming map_some → zW
open Option.some renaming injEq → yW
section
set_option maxHeartbeats 1000000
namespace Go.Av.Lx
open Go Go.Av Go.Av.Tb Go.Av.Fx Go.Proofs
open Go.Lv (Sight Survey Sw Sv SightOk Leg LegOk RangeOk Tun TunOk Try TryOk Stp fallW meetL meetH bestAt driveF wideI)
open Go.Fw (Sq ent Bd Mat)
abbrev choC (f:Nat→Int) (i:Nat):List AV:=[.int .i64 i,.int .i64 (f i)]
def chos (f:Nat→Int) (n:Nat):List AV:=(List.range n).flatMap (choC f)
theorem chos_len (f:Nat→Int) (n:Nat):(chos f n).length=n * 2:=by
 unfold chos;rw [cat_len (f:=choC f) (w:=2) (fun _=>rfl),List.length_range]
theorem chos_bnd (n k:Nat) (f:Nat→Int) (m:Nat):bndL n k (chos f m)=true:=zBb _ (fun _=>rfl) _
theorem chos_succ (f:Nat→Int) (n:Nat):chos f n ++ [.int .i64 n,.int .i64 (f n)]=chos f (n+1):=by
 unfold chos;rw [yN];simp
theorem chos_at (f:Nat→Int) {n k:Nat} (h:k<n):((chos f n).drop (k * 2)).take 2=choC f k:=by
 have:=cat_at (f:=choC f) (w:=2) (fun _=>rfl) (List.range n) k (by simpa using h)
 rw [List.getElem_range] at this
 exact this
theorem narrower_pc (a b c d:Int):PC Tryz.prog 112 [.agg [.int .i64 a,.int .i64 b],.agg [.int .i64 c,.int .i64 d]] (.pure (.bool (decide (b<d)))):=by
 refine PC.of_empty (AC.run (E_ok _) mix Tryz.func112 m112 rfl rfl rfl (zE rfl) ?_) (by simp [bndL,AV.bnd]) rfl
 simp only [go_sem,boxA,Tryz.f112,zB,zD,zC,reduceIte,reduceCtorEq,zA]
theorem best_pc (f:Nat→Int) (n:Nat) (h0:0<n) (hn:n≤1000):PC Tryz.prog 111 [.slice (chos f n) n .unk,.func (.func 112) [] []] (.pure (.agg [.int .i64 (bestAt f (n - 1):Nat),.int .i64 (f (bestAt f (n - 1)))])):=by
 refine PC.of_empty (AC.run (E_ok _) mix Tryz.func111 m111 rfl rfl rfl (zE rfl) ?_) (by simp [bndL,AV.bnd,chos_bnd]) rfl
 have x0:0≤(0:Int)∧(0:Int)<(n:Nat):=by omega
 have x3:0 * 2+2≤(chos f n).length:=by rw [chos_len];omega
 have x4:=chos_at f (k:=0) h0
 have z0:Int.toNat 0=0:=rfl
 have hfun:∀ {n:Nat} {k:Nat},(AV.func (.func 112) [] []).bnd n k=true:=rfl
 simp only [go_sem,x0,x3,x4,z0,and_self,zAd,AV.cells,AV.one,zL,zO,zJ,splice,zI,zH,zAa,zB,zD,zC,reduceIte,reduceCtorEq,zA]
 refine wc_forE n (fun k=>[(1,.func (.func 112) [] []),(4,.ref 0 0),(5,.ref 1 0),(11,.slice (chos f n) n .unk),(12,.int .i64 n),(13,.int .i64 k)])
  (fun k S => ∃ X,S=⟨[some (.cells [.int .i64 0,.int .i64 0]),some (.cells [.int .i64 (bestAt f (k - 1):Nat),.int .i64 (f (bestAt f (k - 1)))])] ++ X,0,[]⟩) rfl ⟨[],rfl⟩ ?_
 rintro k hk S ⟨X,rfl⟩ I hI
 by_cases hlt:k<n
 ·have h1:(k:Int)<n:=by omega
  have h2:0≤(k:Int)∧(k:Int)<(n:Nat):=by omega
  have h3:k * 2+2≤(chos f n).length:=by rw [chos_len];omega
  have h4:IntKind.i64.wrap ((k:Int)+1)=(k+1:Nat):=wrap64 (by omega)
  have h5:=chos_at f (k:=k) hlt
  have hI:=fun S'=>hI hlt S'
  rw [Nat.add_sub_cancel] at hI
  obtain ⟨L,hL⟩:∃ L,([some (.cells [.int .i64 0,.int .i64 0]),some (.cells [.int .i64 (bestAt f (k - 1):Nat),.int .i64 (f (bestAt f (k - 1)))])] ++ X:List (Option Blk))=L:=⟨_,rfl⟩
  have c1:=zAg L
  have c2:=fun x B=>zAs L x B
  have g1:∀ y,cellsAt (L ++ [y]) 1=some [.int .i64 (bestAt f (k - 1):Nat),.int .i64 (f (bestAt f (k - 1)))]:=fun y=>by rw [← hL];rfl
  have s1:∀ y B,setH (L ++ [y]) 1 B=[some (.cells [.int .i64 0,.int .i64 0]),some B] ++ (X ++ [y]):=fun y B=>by rw [← hL];rfl
  rw [hL]
  simp only [go_sem,l111_0,h1,decide_true,h2,h3,h5,zAf,and_self,c1,c2,g1,zAd,AV.cells,AV.one,zL,zO,zJ,splice,zI,zH,zB,zD,zC,reduceIte,reduceCtorEq,zA]
  refine cp n112 (narrower_pc _ _ _ _) (SubL.refl _) ?_
  by_cases hb:f k<f (bestAt f (k - 1))
  ·have e:bestAt f k=k:=by
    cases k with
    | zero=>rfl
    | succ k =>
     rw [Nat.add_sub_cancel] at hb
     show (if _ then _ else _)=_
     rw [if_pos hb]
   simp only [go_sem,hb,decide_true,c1,g1,s1,zAd,AV.cells,AV.one,zL,zO,zJ,splice,zI,zH,h4,zB,zD,zC,reduceIte,reduceCtorEq,zA]
   exact hI _ ⟨X ++ [some (.cells [.int .i64 k,.int .i64 (f k)])],by rw [e];rfl⟩
  ·have e:bestAt f k=bestAt f (k - 1):=by
    cases k with
    | zero=>rfl
    | succ k =>
     rw [Nat.add_sub_cancel] at hb ⊢
     show (if _ then _ else _)=_
     rw [if_neg hb]
   simp only [go_sem,hb,decide_false,h4,zB,zD,zC,reduceIte,reduceCtorEq,zA]
   exact hI _ ⟨X ++ [some (.cells [.int .i64 k,.int .i64 (f k)])],by rw [e,← hL];simp;try rfl⟩
 ·have h1:¬ (k:Int)<n:=by omega
  have e:k=n:=by omega
  subst e
  simp only [go_sem,l111_0,h1,decide_false,AV.cells,AV.one,zL,zO,zJ,splice,zAd,Tryz.f111,zB,zD,zC,reduceIte,reduceCtorEq,zA]
theorem wide_if (lo hi:Int):(if -hi > if hi > if -lo > lo then -lo else lo then hi else if -lo > lo then -lo else lo then -hi else if hi > if -lo > lo then -lo else lo then hi else if -lo > lo then -lo else lo)=wideI lo hi:=by
 unfold wideI
 repeat' split
 all_goals omega
def drivesA (s:Survey) (x:Tun):AV:=betwA s x.frm x.to (tunB s x) [.int .i64 0,.int .i64 0] fun V=>[.int .i64 (bestAt (driveF V x) 20:Nat),.int .i64 (driveF V x (bestAt (driveF V x) 20))]
theorem Drives_pc (s:Survey) (hl:okL s.sights.length) (x:Tun):PC Tryz.prog 43 [surA s,.agg (tunC x)] (.pure (drivesA s x)):=by
 refine PC.of_empty (AC.run (E_ok _) mix Tryz.func43 m43 rfl rfl rfl (zE rfl) ?_) (by simp [bndL,AV.bnd]) (zFb rfl fun _=>rfl)
 unfold drivesA
 simp only [go_sem,boxA,zB,zD,zC,reduceIte,reduceCtorEq,zA]
 refine qp n109 (isTunnel_pc s x) (SubL.refl _) ?_
 simp only [go_sem,zB,zD,zC,reduceIte,reduceCtorEq,zA]
 refine qp n84 (zCl s hl x.frm x.to (tunB s x)) (SubL.refl _) ?_
 rcases zDh s x.frm x.to (tunB s x) [.int .i64 0,.int .i64 0] (fun V=>[.int .i64 (bestAt (driveF V x) 20:Nat),.int .i64 (driveF V x (bestAt (driveF V x) 20))]) with ⟨k,hk,_,e1,e2⟩ | ⟨V,hv,hf,hV,hj,e1,e2⟩
 ·rw [e1,e2]
  simp only [go_sem,zAc,hk,Tryz.f43,zB,zD,zC,reduceIte,reduceCtorEq,zA]
  all_goals rfl
 rw [e1,e2]
 simp only [go_sem,zAc,kvC,zB,zD,zC,reduceIte,reduceCtorEq,zA]
 have hto:=(tun_iff hv.st).1 hf
 have hstep:∀ k:Nat,k≤20→TunOk s.stations (Lv.withFall x k):=fun k hk=>⟨hto.frm,hto.to,hto.ne,hto.long,by show 0≤(k:Int)∧(k:Int)≤20;omega,hto.err⟩
 have hjk:∀ k:Nat,JoinP s V (Lv.withFall x k).frm (Lv.withFall x k).to:=fun k=>hj
 refine zAt (fun m ts' S' => ∃ k W nt tk X y,k≤21∧m=21 - k∧ts'=[(3,.ref 1 0),(7,.ref 2 0),(9,W),(28,.int .i64 (k:Nat))]∧S'=⟨[some (.cells (surC s)),some (.cells (tunC (Lv.withFall x y))),some (.cells (kvC s (wS V)))] ++ X,nt,tk⟩∧Own (chos (driveF V x) k) k W nt tk) 21 ⟨0,.nilS,0,[],[],x.fall,by omega,rfl,rfl,rfl,Own.nil _ _⟩ ?_
 rintro m ts' S' ⟨k,W,nt,tk,X,y,hk,rfl,rfl,rfl,ho⟩
 by_cases hlt:k<21
 ·have h1:(k:Int)<21:=by omega
  have h4:IntKind.i64.wrap ((k:Int)+1)=(k+1:Nat):=wrap64 (by omega)
  have hp:=meets_pc s V (Lv.withFall x k) (hstep k (by omega)) (hjk k)
  simp only [go_sem,l43_0,h1,decide_true,kvC,zB,zD,zC,reduceIte,reduceCtorEq,zA]
  refine cp n110 hp (SubL.refl _) ?_
  have c1:∀ a b c l,cellsAt (a :: b :: c :: (X ++ [some (.cells l)])) (X.length+1+1+1)=some l:=fun a b c l=>zAg (a :: b :: c :: X) l
  have c2:∀ a b c x B,setH (a :: b :: c :: (X ++ [x])) (X.length+1+1+1) B=a :: b :: c :: (X ++ [some B]):=fun a b c x B=>zAs (a :: b :: c :: X) x B
  have f1:=(hstep k (by omega)).fall'
  have f2:=(hstep k (by omega)).err'
  have e1':=hj.e1
  have e2':=hj.e2
  have w1:IntKind.i64.wrap (0 - meetL V (Lv.withFall x k)) = -meetL V (Lv.withFall x k):=by
   rw [wrap64 (by unfold meetL;simp only [Lv.withFall] at f1 f2 ⊢;omega)];omega
  have w2:IntKind.i64.wrap (0 - meetH V (Lv.withFall x k)) = -meetH V (Lv.withFall x k):=by
   rw [wrap64 (by unfold meetH;simp only [Lv.withFall] at f1 f2 ⊢;omega)];omega
  simp only [go_sem,meetA,c1,c2,w1,w2,zAd,AV.cells,AV.one,zL,zO,zJ,splice,zI,zH,zAa,maxsA,unA,zW,zB,zD,zC,reduceIte,reduceCtorEq,zA]
  rw [wide_if]
  refine zDw (lx:=[.int .i64 k,.int .i64 (driveF V x k)]) rowChoices ho (chos_len _ _) rfl (by decide) rfl (by omega) fun W' tk' g => ?_
  simp only [go_sem,h4,zB,zD,zC,reduceIte,reduceCtorEq,zA]
  refine zAi (21 - (k+1)) (by omega) ⟨k+1,W',nt+1,tk',_,(k:Int),by omega,rfl,rfl,rfl, ?_⟩
  have:=g.own
  rw [chos_succ] at this
  exact this
 ·have h1:¬ (k:Int)<21:=by omega
  have e:k=21:=by omega
  subst e
  have c1:∀ a b c l,cellsAt (a :: b :: c :: (X ++ [some (.cells l)])) (X.length+1+1+1)=some l:=fun a b c l=>zAg (a :: b :: c :: X) l
  have c2:∀ a b c x B,setH (a :: b :: c :: (X ++ [x])) (X.length+1+1+1) B=a :: b :: c :: (X ++ [some B]):=fun a b c x B=>zAs (a :: b :: c :: X) x B
  simp only [go_sem,l43_0,h1,decide_false,zB,zD,zC,reduceIte,reduceCtorEq,zA]
  refine cp n111 (best_pc (driveF V x) 21 (by decide) (by decide)) (SubL.cons ho.sub (SubL.refl _)) ?_
  simp only [go_sem,c1,c2,zAd,AV.cells,AV.one,zL,zO,zJ,splice,zI,zH,Tryz.f43,zB,zD,zC,reduceIte,reduceCtorEq,zA]
  all_goals rfl
set_option maxHeartbeats 1000000
@[go_sem] theorem bd_span (p q:Int):buildA T 28 [(0,.int .i64 p),(1,.int .i64 q)]=some (.agg [.int .i64 p,.int .i64 q]):=rfl
set_option maxHeartbeats 1000000

set_option maxHeartbeats 1000000
abbrev zeroR:AV:=.agg [.nilS,.nilS]
def leastF (f:Nat→Int) (k:Nat):Int:=if k=0 then -1 else f (bestAt f (k - 1))
set_option maxHeartbeats 1000000
theorem Same_pc (a b:List Int) (ha:okL a.length) (hb:okL b.length):PC Tryz.prog 29 [sl a,sl b] (.pure (.bool (decide (a=b)))):=by
 refine PC.of_empty (AC.run (E_ok _) mix Tryz.func29 m29 rfl rfl rfl (zE rfl) ?_) (by simp [bndL,AV.bnd]) rfl
 by_cases hl:a.length=b.length
 ·have hd:decide ((a.length:Int)≠b.length)=false:=decide_eq_false (by omega)
  simp only [go_sem,zAa,hd,zB,zD,zC,reduceIte,reduceCtorEq,zA]
  refine zBd a.length (fun k => ∀ i (h1:i<k) (h2:i<a.length) (h3:i<b.length),a[i]=b[i]) (fun k=>[(0,sl a),(1,sl b),(5,.int .i64 (k:Nat))]) (fun _=>St.empty) (fun i hi=>absurd hi (qO _)) rfl rfl ?_
  intro k hk hP I hI
  by_cases hlt:k<a.length
  ·have h1:(k:Int)<a.length:=by omega
   have x1:0≤(k:Int)∧(k:Int)<a.length:=by omega
   have x2:0≤(k:Int)∧(k:Int)<b.length:=by omega
   have h4:IntKind.i64.wrap ((k:Int)+1)=(k+1:Nat):=wrap64 (by omega)
   have hkb:k<b.length:=by omega
   have g1:a[k]? = some a[k]:=zF hlt
   have g2:b[k]? = some b[k]:=zF hkb
   by_cases e:a[k]=b[k]
   ·have hd:decide (a[k]≠b[k])=false:=decide_eq_false fun hh=>hh e
    simp only [go_sem,l29_0,zAa,h1,decide_true,x1,x2,ints_get,g1,g2,zAf,and_self,zW,hd,h4,zB,zD,zC,reduceIte,reduceCtorEq,zA]
    refine hI hlt fun i h1 h2 h3 => ?_
    by_cases ei:i=k
    ·subst ei;exact e
    ·exact hP i (by omega) h2 h3
   ·have hd:decide (a[k]≠b[k])=true:=decide_eq_true e
    have hne:decide (a=b)=false:=decide_eq_false fun hh=>by subst hh;exact e rfl
    simp only [go_sem,l29_0,zAa,h1,decide_true,x1,x2,ints_get,g1,g2,zAf,and_self,zW,hd,Tryz.f29,zB,zD,zC,reduceIte,reduceCtorEq,zA]
    rw [hne]
  ·have h1:¬ (k:Int)<a.length:=by omega
   have he:decide (a=b)=true:=decide_eq_true (List.ext_getElem hl fun i h1 h2=>hP i (by omega) h1 h2)
   simp only [go_sem,l29_0,zAa,h1,decide_false,Tryz.f29,zB,zD,zC,reduceIte,reduceCtorEq,zA]
   rw [he]
 ·have hd:decide ((a.length:Int)≠b.length)=true:=decide_eq_true (by omega)
  have hne:decide (a=b)=false:=decide_eq_false fun hh=>hl (by rw [hh])
  simp only [go_sem,zAa,hd,Tryz.f29,zB,zD,zC,reduceIte,reduceCtorEq,zA]
  rw [hne]
theorem neq_stp (x y:Stp):binA T .neq 127 (.agg (stpC x)) (.agg (stpC y))=some (.bool (decide (x≠y))):=by
 obtain ⟨a,p⟩:=x
 obtain ⟨b,q⟩:=y
 have e:binA T .neq 127 (.agg [.int .i64 a,.bool p]) (.agg [.int .i64 b,.bool q])=(if a == b then (if p == q then some true else some false) else some false).map (.bool !·):=rfl
 show binA T .neq 127 (.agg [.int .i64 a,.bool p]) (.agg [.int .i64 b,.bool q])=_
 rw [e]
 by_cases h1:a=b
 ·subst h1
  by_cases h2:p=q
  ·subst h2;simp
  ·simp [h2]
 ·simp [h1]
theorem zDp (l:List Stp) (k:Nat) (h:k<l.length):((stpsC l).drop (k * 2)).take 2=stpC l[k]:=cat_at (f:=stpC) (w:=2) (fun _=>rfl) l k h
theorem SameSteps_pc (a b:List Stp) (ha:okL a.length) (hb:okL b.length):PC Tryz.prog 76 [stpsA a,stpsA b] (.pure (.bool (decide (a=b)))):=by
 refine PC.of_empty (AC.run (E_ok _) mix Tryz.func76 m76 rfl rfl rfl (zE rfl) ?_) (by simp [bndL,AV.bnd]) rfl
 by_cases hl:a.length=b.length
 ·have hd:decide ((a.length:Int)≠b.length)=false:=decide_eq_false (by omega)
  simp only [go_sem,zAa,hd,zB,zD,zC,reduceIte,reduceCtorEq,zA]
  refine zBd a.length (fun k => ∀ i (h1:i<k) (h2:i<a.length) (h3:i<b.length),a[i]=b[i]) (fun k=>[(0,stpsA a),(1,stpsA b),(5,.int .i64 (k:Nat))]) (fun _=>St.empty) (fun i hi=>absurd hi (qO _)) rfl rfl ?_
  intro k hk hP I hI
  by_cases hlt:k<a.length
  ·have h1:(k:Int)<a.length:=by omega
   have x1:0≤(k:Int)∧(k:Int)<a.length:=by omega
   have x2:0≤(k:Int)∧(k:Int)<b.length:=by omega
   have h4:IntKind.i64.wrap ((k:Int)+1)=(k+1:Nat):=wrap64 (by omega)
   have hkb:k<b.length:=by omega
   have k1:k * 2+2≤(stpsC a).length:=by rw [zCo];omega
   have k2:k * 2+2≤(stpsC b).length:=by rw [zCo];omega
   have g1:=zDp a k hlt
   have g2:=zDp b k hkb
   have nq:=neq_stp a[k] b[k]
   by_cases e:a[k]=b[k]
   ·have hd:decide (a[k]≠b[k])=false:=decide_eq_false fun hh=>hh e
    rw [hd] at nq
    simp only [go_sem,l76_0,zAa,h1,decide_true,x1,x2,k1,k2,g1,g2,zAf,and_self,nq,h4,zB,zD,zC,reduceIte,reduceCtorEq,zA]
    refine hI hlt fun i h1 h2 h3 => ?_
    by_cases ei:i=k
    ·subst ei;exact e
    ·exact hP i (by omega) h2 h3
   ·have hd:decide (a[k]≠b[k])=true:=decide_eq_true e
    rw [hd] at nq
    have hne:decide (a=b)=false:=decide_eq_false fun hh=>by subst hh;exact e rfl
    simp only [go_sem,l76_0,zAa,h1,decide_true,x1,x2,k1,k2,g1,g2,zAf,and_self,nq,Tryz.f76,zB,zD,zC,reduceIte,reduceCtorEq,zA]
    rw [hne]
  ·have h1:¬ (k:Int)<a.length:=by omega
   have he:decide (a=b)=true:=decide_eq_true (List.ext_getElem hl fun i h1 h2=>hP i (by omega) h1 h2)
   simp only [go_sem,l76_0,zAa,h1,decide_false,Tryz.f76,zB,zD,zC,reduceIte,reduceCtorEq,zA]
   rw [he]
 ·have hd:decide ((a.length:Int)≠b.length)=true:=decide_eq_true (by omega)
  have hne:decide (a=b)=false:=decide_eq_false fun hh=>hl (by rw [hh])
  simp only [go_sem,zAa,hd,Tryz.f76,zB,zD,zC,reduceIte,reduceCtorEq,zA]
  rw [hne]
set_option maxHeartbeats 1000000
theorem legs_at (l:List Leg) (k:Nat) (h:k<l.length):((legsC l).drop (k * 3)).take 3=legC l[k]:=cat_at (f:=legC) (w:=3) (fun _=>rfl) l k h
theorem tries_at (l:List Try) (k:Nat) (h:k<l.length):((triesC l).drop (k * 3)).take 3=tryC l[k]:=cat_at (f:=tryC) (w:=3) (fun _=>rfl) l k h
theorem indexFuncL_pc (l:List Leg) (hl:okL l.length) (g:FuncId) (ng:Callable Tryz.prog g) (caps:List AV) (hc:bndL 0 0 caps=true) (p:Leg→Bool) (hg:∀ x∈l,PC Tryz.prog g (.agg (legC x) :: caps) (.pure (.bool (p x)))) :
  PC Tryz.prog 155 [.slice (legsC l) l.length .unk,.func (.func g) [] caps] (.pure (.int .i64 (idx p l))):=by
 refine PC.of_empty (AC.run (E_ok _) mix Tryz.func155 m155 rfl rfl rfl (zE rfl) ?_) (by simp [bndL,AV.bnd,hc]) rfl
 simp only [go_sem,zAa,zB,zD,zC,reduceIte,reduceCtorEq,zA]
 refine zBd l.length (fun k => ∀ i (hi:i<k) (hil:i<l.length),p l[i]=false) (fun k=>[(0,.slice (legsC l) l.length .unk),(1,.func (.func g) [] caps),(7,.int .i64 l.length),(8,.int .i64 k)]) (fun _=>St.empty) (fun i hi=>absurd hi (qO _)) rfl rfl ?_
 intro k hk hP I hI
 by_cases h:k<l.length
 ·have h':(k:Int)<l.length:=by omega
  have h2:0≤(k:Int)∧(k:Int)<l.length:=by omega
  have h3:k * 3+3≤(legsC l).length:=by rw [legsC_len];omega
  have h4:IntKind.i64.wrap ((k:Int)+1)=(k+1:Nat):=wrap64 (by omega)
  have h5:=legs_at l k h
  simp only [go_sem,l155_0,h',decide_true,zB,zD,zC,reduceIte,reduceCtorEq,zA]
  simp only [go_sem,h2,zAf,and_self,h3,h5,zB,zD,zC,reduceIte,reduceCtorEq,zA]
  refine cp ng (hg _ (zX h)) (SubL.refl _) ?_
  simp only [go_sem,zB,zD,zC,reduceIte,reduceCtorEq,zA]
  refine sb_bool (fun hb => ?_) (fun hb => ?_)
  ·simp only [go_sem,Tryz.f155,zB,zD,zC,reduceIte,reduceCtorEq,zA]
   rw [idx_at h hb (fun i hi=>hP i hi (by omega))]
  ·simp only [go_sem,h4,zB,zD,zC,reduceIte,reduceCtorEq,zA]
   refine hI h fun i hi hil => ?_
   by_cases e:i=k
   ·subst e;exact hb
   ·exact hP i (by omega) hil
 ·have h':¬ (k:Int)<l.length:=by omega
  simp only [go_sem,l155_0,h',decide_false,Tryz.f155,zB,zD,zC,reduceIte,reduceCtorEq,zA]
  rw [zEb fun i hi=>hP i (by omega) hi]
theorem containsFuncL_pc (l:List Leg) (hl:okL l.length) (g:FuncId) (ng:Callable Tryz.prog g) (caps:List AV) (hc:bndL 0 0 caps=true) (p:Leg→Bool) (hg:∀ x∈l,PC Tryz.prog g (.agg (legC x) :: caps) (.pure (.bool (p x)))) :
  PC Tryz.prog 102 [.slice (legsC l) l.length .unk,.func (.func g) [] caps] (.pure (.bool (l.any p))):=by
 refine PC.of_empty (AC.run (E_ok _) mix Tryz.func102 m102 rfl rfl rfl (zE rfl) ?_) (by simp [bndL,AV.bnd,hc]) rfl
 simp only [go_sem,zB,zD,zC,reduceIte,reduceCtorEq,zA]
 refine cp n155 (indexFuncL_pc l hl g ng caps hc p hg) (SubL.refl _) ?_
 simp only [go_sem,Tryz.f102,zCj,zB,zD,zC,reduceIte,reduceCtorEq,zA]
theorem indexFuncT_pc (l:List Try) (hl:okL l.length) (g:FuncId) (ng:Callable Tryz.prog g) (caps:List AV) (hc:bndL 0 0 caps=true) (p:Try→Bool) (hg:∀ x∈l,PC Tryz.prog g (.agg (tryC x) :: caps) (.pure (.bool (p x)))) :
  PC Tryz.prog 157 [.slice (triesC l) l.length .unk,.func (.func g) [] caps] (.pure (.int .i64 (idx p l))):=by
 refine PC.of_empty (AC.run (E_ok _) mix Tryz.func157 m157 rfl rfl rfl (zE rfl) ?_) (by simp [bndL,AV.bnd,hc]) rfl
 simp only [go_sem,zAa,zB,zD,zC,reduceIte,reduceCtorEq,zA]
 refine zBd l.length (fun k => ∀ i (hi:i<k) (hil:i<l.length),p l[i]=false) (fun k=>[(0,.slice (triesC l) l.length .unk),(1,.func (.func g) [] caps),(7,.int .i64 l.length),(8,.int .i64 k)]) (fun _=>St.empty) (fun i hi=>absurd hi (qO _)) rfl rfl ?_
 intro k hk hP I hI
 by_cases h:k<l.length
 ·have h':(k:Int)<l.length:=by omega
  have h2:0≤(k:Int)∧(k:Int)<l.length:=by omega
  have h3:k * 3+3≤(triesC l).length:=by rw [triesC_len];omega
  have h4:IntKind.i64.wrap ((k:Int)+1)=(k+1:Nat):=wrap64 (by omega)
  have h5:=tries_at l k h
  simp only [go_sem,l157_0,h',decide_true,zB,zD,zC,reduceIte,reduceCtorEq,zA]
  simp only [go_sem,h2,zAf,and_self,h3,h5,zB,zD,zC,reduceIte,reduceCtorEq,zA]
  refine cp ng (hg _ (zX h)) (SubL.refl _) ?_
  simp only [go_sem,zB,zD,zC,reduceIte,reduceCtorEq,zA]
  refine sb_bool (fun hb => ?_) (fun hb => ?_)
  ·simp only [go_sem,Tryz.f157,zB,zD,zC,reduceIte,reduceCtorEq,zA]
   rw [idx_at h hb (fun i hi=>hP i hi (by omega))]
  ·simp only [go_sem,h4,zB,zD,zC,reduceIte,reduceCtorEq,zA]
   refine hI h fun i hi hil => ?_
   by_cases e:i=k
   ·subst e;exact hb
   ·exact hP i (by omega) hil
 ·have h':¬ (k:Int)<l.length:=by omega
  simp only [go_sem,l157_0,h',decide_false,Tryz.f157,zB,zD,zC,reduceIte,reduceCtorEq,zA]
  rw [zEb fun i hi=>hP i (by omega) hi]
theorem containsFuncT_pc (l:List Try) (hl:okL l.length) (g:FuncId) (ng:Callable Tryz.prog g) (caps:List AV) (hc:bndL 0 0 caps=true) (p:Try→Bool) (hg:∀ x∈l,PC Tryz.prog g (.agg (tryC x) :: caps) (.pure (.bool (p x)))) :
  PC Tryz.prog 113 [.slice (triesC l) l.length .unk,.func (.func g) [] caps] (.pure (.bool (l.any p))):=by
 refine PC.of_empty (AC.run (E_ok _) mix Tryz.func113 m113 rfl rfl rfl (zE rfl) ?_) (by simp [bndL,AV.bnd,hc]) rfl
 simp only [go_sem,zB,zD,zC,reduceIte,reduceCtorEq,zA]
 refine cp n157 (indexFuncT_pc l hl g ng caps hc p hg) (SubL.refl _) ?_
 simp only [go_sem,Tryz.f113,zCj,zB,zD,zC,reduceIte,reduceCtorEq,zA]
theorem indexFuncP_pc (l:List Stp) (hl:okL l.length) (g:FuncId) (ng:Callable Tryz.prog g) (caps:List AV) (hc:bndL 0 0 caps=true) (p:Stp→Bool) (hg:∀ x∈l,PC Tryz.prog g (.agg (stpC x) :: caps) (.pure (.bool (p x)))) :
  PC Tryz.prog 171 [.slice (stpsC l) l.length .unk,.func (.func g) [] caps] (.pure (.int .i64 (idx p l))):=by
 refine PC.of_empty (AC.run (E_ok _) mix Tryz.func171 m171 rfl rfl rfl (zE rfl) ?_) (by simp [bndL,AV.bnd,hc]) rfl
 simp only [go_sem,zAa,zB,zD,zC,reduceIte,reduceCtorEq,zA]
 refine zBd l.length (fun k => ∀ i (hi:i<k) (hil:i<l.length),p l[i]=false) (fun k=>[(0,.slice (stpsC l) l.length .unk),(1,.func (.func g) [] caps),(7,.int .i64 l.length),(8,.int .i64 k)]) (fun _=>St.empty) (fun i hi=>absurd hi (qO _)) rfl rfl ?_
 intro k hk hP I hI
 by_cases h:k<l.length
 ·have h':(k:Int)<l.length:=by omega
  have h2:0≤(k:Int)∧(k:Int)<l.length:=by omega
  have h3:k * 2+2≤(stpsC l).length:=by rw [zCo];omega
  have h4:IntKind.i64.wrap ((k:Int)+1)=(k+1:Nat):=wrap64 (by omega)
  have h5:=zDp l k h
  simp only [go_sem,l171_0,h',decide_true,zB,zD,zC,reduceIte,reduceCtorEq,zA]
  simp only [go_sem,h2,zAf,and_self,h3,h5,zB,zD,zC,reduceIte,reduceCtorEq,zA]
  refine cp ng (hg _ (zX h)) (SubL.refl _) ?_
  simp only [go_sem,zB,zD,zC,reduceIte,reduceCtorEq,zA]
  refine sb_bool (fun hb => ?_) (fun hb => ?_)
  ·simp only [go_sem,Tryz.f171,zB,zD,zC,reduceIte,reduceCtorEq,zA]
   rw [idx_at h hb (fun i hi=>hP i hi (by omega))]
  ·simp only [go_sem,h4,zB,zD,zC,reduceIte,reduceCtorEq,zA]
   refine hI h fun i hi hil => ?_
   by_cases e:i=k
   ·subst e;exact hb
   ·exact hP i (by omega) hil
 ·have h':¬ (k:Int)<l.length:=by omega
  simp only [go_sem,l171_0,h',decide_false,Tryz.f171,zB,zD,zC,reduceIte,reduceCtorEq,zA]
  rw [zEb fun i hi=>hP i (by omega) hi]
theorem containsFuncP_pc (l:List Stp) (hl:okL l.length) (g:FuncId) (ng:Callable Tryz.prog g) (caps:List AV) (hc:bndL 0 0 caps=true) (p:Stp→Bool) (hg:∀ x∈l,PC Tryz.prog g (.agg (stpC x) :: caps) (.pure (.bool (p x)))) :
  PC Tryz.prog 133 [.slice (stpsC l) l.length .unk,.func (.func g) [] caps] (.pure (.bool (l.any p))):=by
 refine PC.of_empty (AC.run (E_ok _) mix Tryz.func133 m133 rfl rfl rfl (zE rfl) ?_) (by simp [bndL,AV.bnd,hc]) rfl
 simp only [go_sem,zB,zD,zC,reduceIte,reduceCtorEq,zA]
 refine cp n171 (indexFuncP_pc l hl g ng caps hc p hg) (SubL.refl _) ?_
 simp only [go_sem,Tryz.f133,zCj,zB,zD,zC,reduceIte,reduceCtorEq,zA]
theorem indexFuncB_pc (l:List Bound) (hl:okL l.length) (g:FuncId) (ng:Callable Tryz.prog g) (caps:List AV) (hc:bndL 0 0 caps=true) (p:Bound→Bool) (hg:∀ x∈l,PC Tryz.prog g (.agg (bndC x) :: caps) (.pure (.bool (p x)))) :
  PC Tryz.prog 189 [.slice (bnds l) l.length .unk,.func (.func g) [] caps] (.pure (.int .i64 (idx p l))):=by
 refine PC.of_empty (AC.run (E_ok _) mix Tryz.func189 m189 rfl rfl rfl (zE rfl) ?_) (by simp [bndL,AV.bnd,hc]) rfl
 simp only [go_sem,zAa,zB,zD,zC,reduceIte,reduceCtorEq,zA]
 refine zBd l.length (fun k => ∀ i (hi:i<k) (hil:i<l.length),p l[i]=false) (fun k=>[(0,.slice (bnds l) l.length .unk),(1,.func (.func g) [] caps),(7,.int .i64 l.length),(8,.int .i64 k)]) (fun _=>St.empty) (fun i hi=>absurd hi (qO _)) rfl rfl ?_
 intro k hk hP I hI
 by_cases h:k<l.length
 ·have h':(k:Int)<l.length:=by omega
  have h2:0≤(k:Int)∧(k:Int)<l.length:=by omega
  have h3:k * 3+3≤(bnds l).length:=by rw [bnds_len];omega
  have h4:IntKind.i64.wrap ((k:Int)+1)=(k+1:Nat):=wrap64 (by omega)
  have h5:=bnds_at l k h
  simp only [go_sem,l189_0,h',decide_true,zB,zD,zC,reduceIte,reduceCtorEq,zA]
  simp only [go_sem,h2,zAf,and_self,h3,h5,zB,zD,zC,reduceIte,reduceCtorEq,zA]
  refine cp ng (hg _ (zX h)) (SubL.refl _) ?_
  simp only [go_sem,zB,zD,zC,reduceIte,reduceCtorEq,zA]
  refine sb_bool (fun hb => ?_) (fun hb => ?_)
  ·simp only [go_sem,Tryz.f189,zB,zD,zC,reduceIte,reduceCtorEq,zA]
   rw [idx_at h hb (fun i hi=>hP i hi (by omega))]
  ·simp only [go_sem,h4,zB,zD,zC,reduceIte,reduceCtorEq,zA]
   refine hI h fun i hi hil => ?_
   by_cases e:i=k
   ·subst e;exact hb
   ·exact hP i (by omega) hil
 ·have h':¬ (k:Int)<l.length:=by omega
  simp only [go_sem,l189_0,h',decide_false,Tryz.f189,zB,zD,zC,reduceIte,reduceCtorEq,zA]
  rw [zEb fun i hi=>hP i (by omega) hi]
theorem containsFuncB_pc (l:List Bound) (hl:okL l.length) (g:FuncId) (ng:Callable Tryz.prog g) (caps:List AV) (hc:bndL 0 0 caps=true) (p:Bound→Bool) (hg:∀ x∈l,PC Tryz.prog g (.agg (bndC x) :: caps) (.pure (.bool (p x)))) :
  PC Tryz.prog 176 [.slice (bnds l) l.length .unk,.func (.func g) [] caps] (.pure (.bool (l.any p))):=by
 refine PC.of_empty (AC.run (E_ok _) mix Tryz.func176 m176 rfl rfl rfl (zE rfl) ?_) (by simp [bndL,AV.bnd,hc]) rfl
 simp only [go_sem,zB,zD,zC,reduceIte,reduceCtorEq,zA]
 refine cp n189 (indexFuncB_pc l hl g ng caps hc p hg) (SubL.refl _) ?_
 simp only [go_sem,Tryz.f176,zCj,zB,zD,zC,reduceIte,reduceCtorEq,zA]
theorem carries1_pc (s:Survey) (x:Leg):PC Tryz.prog 103 [.agg (legC x),.eptr (surC s) 0] (.pure (.bool (!legB s x))):=by
 refine PC.of_empty (AC.run (E_ok _) mix Tryz.func103 m103 rfl rfl rfl (zE rfl) ?_) (by simp [bndL,AV.bnd]) rfl
 simp only [go_sem,boxA,zB,zD,zC,reduceIte,reduceCtorEq,zA]
 refine cp n104 (isLeg_pc s x) (SubL.refl _) ?_
 simp only [go_sem,zAh,Tryz.f103,zB,zD,zC,reduceIte,reduceCtorEq,zA]
def legsB (s:Survey) (l:List Leg):Bool:=inB l.length 1 6 && l.all (legB s)
end Go.Av.Lx
end
section
set_option maxHeartbeats 1000000
namespace Go.Av.Lx
open Go Go.Av Go.Av.Tb Go.Av.Fx Go.Proofs
open Go.Lv (Sight Survey Sw Sv SightOk Leg LegOk RangeOk Tun TunOk Try TryOk Stp fallW meetL meetH bestAt driveF wideI carryW carryB)
open Go.Fw (Sq ent Bd Mat)
def lbB (lo hi:Int) (x:Leg):List Bound:=[⟨x.to,x.frm,x.long * hi⟩,⟨x.frm,x.to,-(x.long * lo)⟩]
def lbs (lo hi:Int) (l:List Leg):List Bound:=l.flatMap (lbB lo hi)
theorem lbs_bd (lo hi:Int) (l:List Leg):(lbs lo hi l).map bd=Lv.legsP lo hi l:=by
 unfold lbs Lv.legsP
 rw [List.map_flatMap];rfl
theorem lbs_len (lo hi:Int) (l:List Leg):(lbs lo hi l).length=l.length * 2:=by
 unfold lbs
 induction l with
 | nil=>rfl
 | cons x l ih=>rw [qW,qC,ih,qB];simp [lbB];omega
theorem lbs_ok {s:Survey} (h:Sw s) {lo hi:Int} (hr:RangeOk lo hi) {l:List Leg} (hl:∀ x∈l,LegOk s.stations x):∀ b∈lbs lo hi l,BOk (Lv.num s) b:=fun b hb=>by
 obtain ⟨x,hx,hb⟩:=List.mem_flatMap.1 hb
 have ho:=hl x hx
 obtain ⟨s1,s2⟩:=Lv.leg_small ho hr
 have h1:=ho.frm;have h2:=ho.to
 have h3:=h.st
 have e:((Lv.num s:Nat):Int)=s.stations:=by show ((s.stations.toNat:Nat):Int)=_;omega
 simp only [lbB,yK,qY,or_false] at hb
 rcases hb with rfl | rfl
 ·exact ⟨by rw [e];exact h2,by rw [e];exact h1,by show -20000≤x.long * hi∧x.long * hi≤20000;omega⟩
 ·exact ⟨by rw [e];exact h1,by rw [e];exact h2,by show -20000 ≤ -(x.long * lo) ∧ -(x.long * lo)≤20000;omega⟩
def joinAll (V:Mat) (l:List Leg):Bool:=l.all fun x=>decide (ent V x.frm.toNat x.to.toNat<far)
def zFc (s:Survey) (l:List Leg) (lo hi:Int):AV:=
 if zAo s && (legsB s l && rangeB lo hi) then (match Lv.knownV s with
  | some V=>if joinAll V l=true then .tuple [.int .i64 (carryW s V l lo hi),.int .i64 0] else .tuple [.int .i64 0,.int .i64 5]
  | none=>.tuple [.int .i64 0,.int .i64 7])
 else .tuple [.int .i64 0,.int .i64 2]
theorem carriesA_bnd (s:Survey) (l:List Leg) (lo hi:Int):(zFc s l lo hi).bnd 0 0=true:=by
 unfold zFc
 split
 ·split
  ·split <;> rfl
  ·rfl
 ·rfl
def surelyB (V:Mat) (l:List Leg) (lo hi:Int):Bool:=l.all fun x=>decide (fallW V x lo hi=3)
theorem possK_carry {s:Survey} {l:List Leg} {lo hi:Int}:possK s (lbs lo hi l)=carryB s l lo hi:=by
 unfold possK kn carryB
 rw [lbs_bd]
theorem Carries_pc (s:Survey) (hl:okL s.sights.length) (l:List Leg) (hll:okL l.length) (lo hi:Int):PC Tryz.prog 35 [surA s,legsA l,.int .i64 lo,.int .i64 hi] (.pure (zFc s l lo hi)):=by
 refine PC.of_empty (AC.run (E_ok _) mix Tryz.func35 m35 rfl rfl rfl (zE rfl) ?_) (by simp [bndL,AV.bnd]) (carriesA_bnd _ _ _ _)
 unfold zFc legsB
 have hno:∀ b,b=false→askedA s b=.tuple [zeroK,.int .i64 2]:=fun b e=>by subst e;unfold askedA;rw [Bool.and_false];rfl
 simp only [go_sem,boxA,zAa,zB,zD,zC,reduceIte,reduceCtorEq,zA]
 refine cp n100 (in_pc _ _ _) (SubL.refl _) ?_
 rw [show (decide ((l.length:Int) ≥ 1) && decide ((l.length:Int)≤6))=inB l.length 1 6 from rfl]
 cases h1:inB l.length 1 6
 ·simp only [go_sem,qG,Bool.and_false,zB,zD,zC,reduceIte,reduceCtorEq,zA]
  refine cp n86 (zCf s hl false) (SubL.refl _) ?_
  rw [hno false rfl]
  simp only [go_sem,zAc,Tryz.f35,zB,zD,zC,reduceIte,reduceCtorEq,zA]
  simp
 simp only [go_sem,yA,zB,zD,zC,reduceIte,reduceCtorEq,zA]
 refine cp n101 (isRange_pc lo hi) (SubL.refl _) ?_
 cases h2:rangeB lo hi
 ·simp only [go_sem,qG,Bool.and_false,zB,zD,zC,reduceIte,reduceCtorEq,zA]
  refine cp n86 (zCf s hl false) (SubL.refl _) ?_
  rw [hno false rfl]
  simp only [go_sem,zAc,Tryz.f35,zB,zD,zC,reduceIte,reduceCtorEq,zA]
  simp
 have hC:=containsFuncL_pc l hll 103 n103 [.eptr (surC s) 0] (by simp [bndL,AV.bnd]) (fun x => !legB s x) (fun x _=>carries1_pc s x)
 simp only [go_sem,Bool.and_true,zB,zD,zC,reduceIte,reduceCtorEq,zA]
 refine cl n102 hC (LntL.cons (.same _ (by simp [AV.bnd])) (LntL.cons (Lnt.func1 (.ptr 0 0 _ rfl (by simp [bndL,AV.bnd]))) (LntL.nil _))) rfl ?_
 have hany:(!l.any fun x => !legB s x)=l.all (legB s):=by
  rw [← List.all_eq_not_any_not]
 simp only [go_sem,zAh,hany,zB,zD,zC,reduceIte,reduceCtorEq,zA]
 cases h3:l.all (legB s)
 ·refine cp n86 (zCf s hl false) (SubL.refl _) ?_
  rw [hno false rfl]
  simp only [go_sem,zAc,Tryz.f35,zB,zD,zC,reduceIte,reduceCtorEq,zA]
  simp
 refine cp n86 (zCf s hl true) (SubL.refl _) ?_
 unfold askedA
 cases hs:zAo s
 ·simp only [go_sem,qG,zAc,Tryz.f35,zB,zD,zC,reduceIte,reduceCtorEq,zA]
  all_goals rfl
 have hv:=zBr.1 hs
 cases hV:Lv.knownV s with
 | none =>
  simp only [go_sem,zJ,zAc,Tryz.f35,zB,zD,zC,reduceIte,reduceCtorEq,zA]
  all_goals rfl
 | some V =>
  have hr:=range_iff.1 h2
  have hlen:l.length≤6:=by have:=inB_iff.1 h1;omega
  have hlg:∀ x∈l,LegOk s.stations x:=fun x hx=>(leg_iff hv.st).1 (List.all_eq_true.1 h3 x hx)
  simp only [zJ,if_true]
  simp only [go_sem,zJ,zAc,kvC,zAa,zB,zD,zC,reduceIte,reduceCtorEq,zA]
  refine zAt (fun m ts' S' => ∃ k W nt tk X,k≤l.length∧m=l.length - k∧ts'=[(2,.int .i64 lo),(3,.int .i64 hi),(4,.ref 0 0),(11,.ref 1 0),(13,W),(14,.bool (surelyB V (l.take k) lo hi)),(40,legsA l),(41,.int .i64 l.length),(42,.int .i64 (k:Nat))]∧S'=⟨[some (.cells (surC s)),some (.cells (kvC s (wS V)))] ++ X,nt,tk⟩∧MoreA (lbs lo hi (l.take k)) W ⟨[],nt,tk⟩ nt∧joinAll V (l.take k)=true) l.length ⟨0,.nilS,0,[],[],qH _,rfl,by simp [surelyB],rfl,.inl ⟨rfl,by simp [lbs]⟩,by simp [joinAll]⟩ ?_
  rintro m ts' S' ⟨k,W,nt,tk,X,hk,rfl,rfl,rfl,hM,hJ⟩
  by_cases hlt:k<l.length
  ·have k1:(k:Int)<l.length:=by omega
   have k2:0≤(k:Int)∧(k:Int)<l.length:=by omega
   have k3:k * 3+3≤(legsC l).length:=by rw [legsC_len];omega
   have k4:IntKind.i64.wrap ((k:Int)+1)=(k+1:Nat):=wrap64 (by omega)
   have k5:=legs_at l k hlt
   have hx:=hlg _ (zX hlt)
   have tk1:l.take (k+1)=l.take k ++ [l[k]]:=qF hlt
   have hnj:¬ ent V l[k].frm.toNat l[k].to.toNat<far→joinAll V l=false:=fun h=>by
    unfold joinAll
    rw [List.all_eq_false]
    exact ⟨l[k],zX hlt,by rw [decide_eq_true_iff];exact h⟩
   have hll2:(lbs lo hi (l.take k)).length+(lbB lo hi l[k]).length≤1000000:=by rw [lbs_len,yL];simp [lbB];omega
   have hlb:lbs lo hi (l.take (k+1))=lbs lo hi (l.take k) ++ lbB lo hi l[k]:=by rw [tk1];unfold lbs;rw [List.flatMap_append];simp
   have hsu:surelyB V (l.take (k+1)) lo hi=(surelyB V (l.take k) lo hi && decide (fallW V l[k] lo hi=3)):=by rw [tk1];unfold surelyB;rw [List.all_append];simp
   have hjo:joinAll V (l.take (k+1))=(joinAll V (l.take k) && decide (ent V l[k].frm.toNat l[k].to.toNat<far)):=by rw [tk1];unfold joinAll;rw [List.all_append];simp
   generalize l[k]=x at *
   have c1:∀ a b q,cellsAt (a :: b :: (X ++ [some (.cells q)])) (X.length+1+1)=some q:=fun a b q=>zAg (a :: b :: X) q
   have c2:∀ a b y B,setH (a :: b :: (X ++ [y])) (X.length+1+1) B=a :: b :: (X ++ [some B]):=fun a b y B=>zAs (a :: b :: X) y B
   obtain ⟨s1,s2⟩:=Lv.leg_small hx hr
   have hsm:=hx.long
   have o1:=hx.frm
   have o2:=hx.to
   obtain ⟨a,ha⟩:∃ a:Nat,x.frm=a:=⟨x.frm.toNat,by omega⟩
   obtain ⟨b,hb⟩:∃ b:Nat,x.to=b:=⟨x.to.toNat,by omega⟩
   have ea:a<Lv.num s:=by show a<s.stations.toNat;omega
   have eb:b<Lv.num s:=by show b<s.stations.toNat;omega
   have hjp:=joined_pc s (zBk (ds:=[]) hV) ea eb
   rw [← ha,← hb] at hjp
   have w1:IntKind.i64.wrap (x.long * hi)=x.long * hi:=wrap64 (by omega)
   have w2:IntKind.i64.wrap (0 - x.long) = -x.long:=by rw [wrap64 (by omega)];omega
   have w3:IntKind.i64.wrap (-x.long * lo) = -(x.long * lo):=by rw [Int.neg_mul];exact wrap64 (by omega)
   simp only [go_sem,l35_0,k1,decide_true,k2,k3,k5,zAf,and_self,c1,c2,zAd,AV.cells,AV.one,zL,zO,zJ,splice,zI,zH,zB,zD,zC,reduceIte,reduceCtorEq,zA]
   refine cp n105 hjp (SubL.refl _) ?_
   have hab:ent V a b=ent V x.frm.toNat x.to.toNat:=by rw [ha,hb];rfl
   rw [hab]
   by_cases hf:ent V x.frm.toNat x.to.toNat<far
   ·have hjn:=joinP hv.toSw hV o1 o2 hf
    rw [decide_eq_true hf] at hjo ⊢
    simp only [go_sem,zAh,zV,c1,zB,zD,zC,reduceIte,reduceCtorEq,zA]
    cases hsb:surelyB V (l.take k) lo hi
    ·simp only [go_sem,c1,w1,w2,w3,unA,zAa,zB,zD,zC,reduceIte,reduceCtorEq,zA]
     refine MoreA.app (S:=⟨some (.cells (surC s)) :: some (.cells (kvC s (wS V))) :: (X ++ [some (.cells (legC x))]),nt,tk⟩) (l:=lbB lo hi x) (N:=nt) (hM.mono (fun k hk _=>hk) (zN _)) (zN _) (by simp [lbB]) hll2 fun M3 tk3 hM3 => ?_
     simp only [go_sem,k4,zB,zD,zC,reduceIte,reduceCtorEq,zA]
     refine zAi (l.length - (k+1)) (by omega) ⟨k+1,M3,nt+1,tk3,_,hlt,rfl, ?_,rfl, ?_,by rw [hjo,hJ];rfl⟩
     ·rw [hsu,hsb];rfl
     ·rw [hlb];exact hM3.mono (fun k hk _=>hk) (zN _)
    ·simp only [go_sem,c1,w1,w2,w3,unA,zAa,zB,zD,zC,reduceIte,reduceCtorEq,zA]
     refine cp n106 (falls_pc s V x lo hi hx hr hjn) (SubL.refl _) ?_
     simp only [go_sem,c1,w1,w2,w3,unA,zAa,zB,zD,zC,reduceIte,reduceCtorEq,zA]
     refine MoreA.app (S:=⟨some (.cells (surC s)) :: some (.cells (kvC s (wS V))) :: (X ++ [some (.cells (legC x))]),nt,tk⟩) (l:=lbB lo hi x) (N:=nt) (hM.mono (fun k hk _=>hk) (zN _)) (zN _) (by simp [lbB]) hll2 fun M3 tk3 hM3 => ?_
     simp only [go_sem,k4,zB,zD,zC,reduceIte,reduceCtorEq,zA]
     refine zAi (l.length - (k+1)) (by omega) ⟨k+1,M3,nt+1,tk3,_,hlt,rfl, ?_,rfl, ?_,by rw [hjo,hJ];rfl⟩
     ·rw [hsu,hsb];rfl
     ·rw [hlb];exact hM3.mono (fun k hk _=>hk) (zN _)
   ·rw [decide_eq_false hf]
    simp only [go_sem,zAh,qD,Tryz.f35,zB,zD,zC,reduceIte,reduceCtorEq,zA]
    rw [hnj hf];rfl
  ·have k1:¬ (k:Int)<l.length:=by omega
   have ek:k=l.length:=by omega
   subst ek
   rw [qZ] at hM hJ
   rw [hJ,if_pos rfl]
   have hcw:carryW s V l lo hi=if surelyB V l lo hi=true then 3 else if carryB s l lo hi=true then 2 else 1:=rfl
   rw [hcw]
   simp only [go_sem,l35_0,k1,decide_false,qZ,zB,zD,zC,reduceIte,reduceCtorEq,zA]
   cases hsb:surelyB V l lo hi
   ·simp only [go_sem,zB,zD,zC,reduceIte,reduceCtorEq,zA]
    have hM1:W.cells=[W]∧W.one=true:=by
     rcases hM with ⟨rfl,_⟩ | ⟨k,rfl,_,_⟩
     ·exact ⟨rfl,rfl⟩
     ·exact ⟨rfl,rfl⟩
    refine zCb (E:=E _) n107 (possible_ac s hv.toSw (by have:=hv.many;omega) (lbs lo hi l) (by rw [lbs_len];omega) (lbs_ok hv.toSw hr hlg) W hM1 _ nt tk (hM.mono (fun k hk _=>hk) (zN _))) (fun v S' hR => ?_) (fun v S' hR=>by cases hR.1)
    obtain ⟨e,A,nt',tk',rfl,_⟩:=hR
    cases e
    rw [possK_carry]
    cases hcb:carryB s l lo hi
    ·simp only [go_sem,zAh,qD,Tryz.f35,zB,zD,zC,reduceIte,reduceCtorEq,zA]
     all_goals rfl
    ·simp only [go_sem,zAh,zV,Tryz.f35,zB,zD,zC,reduceIte,reduceCtorEq,zA]
     all_goals rfl
   ·simp only [go_sem,Tryz.f35,zB,zD,zC,reduceIte,reduceCtorEq,zA]
    all_goals rfl
end Go.Av.Lx
end
section
set_option maxHeartbeats 4000000
namespace Go.Av.Lx
open Go Go.Av Go.Av.Tb Go.Av.Fx Go.Proofs
open Go.Lv (Sight Survey Sw Sv SightOk Leg LegOk RangeOk Tun TunOk Try TryOk Stp fallW meetL meetH bestAt driveF wideI carryW carryB Clos Both)
open Go.Fw (Sq ent Bd Mat upd row stage upto)

end Go.Av.Lx
end
section
set_option maxHeartbeats 2000000
namespace Go.Av.Lx
open Go Go.Av Go.Av.Tb Go.Av.Fx Go.Proofs
open Go.Lv (Sight Survey Sw Sv SightOk Stp zBp walkRow rowStep rowOne)
open Go.Fw (Sq ent Bd Mat)
theorem rem_nat {x y:Nat} (h:0<y):intOp .rem .i64 (x:Int) (y:Int)=some (.int .i64 (x % y:Nat)):=by
 show (if (y:Int)=0 then none else some (AV.int .i64 (Int.tmod x y)))=_
 rw [if_neg (by omega)];rfl
theorem quo_nat {x y:Nat} (h:0<y) (hx:x≤1000000000):intOp .quo .i64 (x:Int) (y:Int)=some (.int .i64 (x / y:Nat)):=by
 show (if (y:Int)=0 then none else some (AV.int .i64 (IntKind.i64.wrap (Int.tdiv x y))))=_
 rw [if_neg (by omega)]
 have e:Int.tdiv (x:Int) y=((x / y:Nat):Int):=rfl
 have:x / y≤x:=Nat.div_le_self _ _
 rw [e]
 generalize x / y=q at *
 rw [wrap64 (by omega)]
theorem divisor_pc (a b:Nat):PC Tryz.prog 148 [.int .i64 a,.int .i64 b] (.pure (.int .i64 (Nat.gcd a b:Nat))):=by
 refine PC.of_empty (AC.run (E_ok _) mix Tryz.func148 m148 rfl rfl rfl (zE rfl) ?_) (by simp [bndL,AV.bnd]) rfl
 simp only [go_sem,zB,zD,zC,reduceIte,reduceCtorEq,zA]
 refine zAt (fun m ts' S' => ∃ x y:Nat,m=y∧ts'=[(0,.int .i64 x),(1,.int .i64 y)]∧S'=St.empty∧Nat.gcd x y=Nat.gcd a b) b ⟨a,b,rfl,rfl,rfl,rfl⟩ ?_
 rintro m ts' S' ⟨x,y,rfl,rfl,rfl,hg⟩
 by_cases h:0<m
 ·have h1:(m:Int) > 0:=by omega
  have hq:=rem_nat (x:=x) h
  simp only [go_sem,l148_0,h1,decide_true,hq,zB,zD,zC,reduceIte,reduceCtorEq,zA]
  refine zAi (x % m) (Nat.mod_lt _ h) ⟨m,x % m,rfl,rfl,rfl, ?_⟩
  rw [← hg,Nat.gcd_comm x m,Nat.gcd_rec m x,Nat.gcd_comm]
 ·have h1:¬ (m:Int) > 0:=by omega
  have e:m=0:=by omega
  subst e
  simp only [go_sem,l148_0,h1,decide_false,Tryz.f148,zB,zD,zC,reduceIte,reduceCtorEq,zA]
  rw [← hg,Nat.gcd_zero_right]
theorem wS_bnd (W:Mat):(wS W).bnd 0 0=true:=by
 have:bndL 0 0 (W.map sl)=true:=bndL_map _ (fun _=>by simp [AV.bnd]) W
 simp [AV.bnd,this]
def rowsF (f:Nat→Nat) (m n:Nat):List AV:=(List.range m).map fun i=>.sref (f i) 0 n n
@[simp] theorem rowsF_len (f:Nat→Nat) (m n:Nat):(rowsF f m n).length=m:=by simp [rowsF]
theorem rowsF_get {f:Nat→Nat} {m n i:Nat} (h:i<m):(rowsF f m n)[i]? = some (.sref (f i) 0 n n):=by simp [rowsF,qS h]
theorem rowsF_snoc (f:Nat→Nat) (m n:Nat):rowsF f m n ++ [.sref (f m) 0 n n]=rowsF f (m+1) n:=by simp [rowsF,yN]
theorem cells_block {h:List (Option Blk)} {i:Nat} {l:List AV} (hc:cellsAt h i=some l):h[i]? = some (some (.cells l)):=by
 unfold cellsAt at hc
 split at hc
 ·rename_i e;cases hc;exact e
 ·cases hc
theorem zEe {h:List (Option Blk)} {i:Nat} {l:List AV} (hc:cellsAt h i=some l):i<h.length:=by
 rcases zU i h.length with h' | h'
 ·exact h'
 ·have:=cells_block hc
  rw [zM h'] at this;cases this
theorem zBv {h:List (Option Blk)} {i j:Nat} {B:Blk} (hj:j<h.length) (hij:i≠j):cellsAt (setH h j B) i=cellsAt h i:=by
 rw [setH_at hj]
 unfold cellsAt
 rw [yC,if_neg (fun e=>hij e.symm)]
theorem cells_self {h:List (Option Blk)} {j:Nat} {l:List AV} (hj:j<h.length):cellsAt (setH h j (.cells l)) j=some l:=by
 rw [setH_at hj]
 unfold cellsAt
 rw [yC,if_pos rfl,if_pos hj]
theorem setH_len {h:List (Option Blk)} {j:Nat} {B:Blk} (hj:j<h.length):(setH h j B).length=h.length:=by rw [setH_at hj,List.length_set]
theorem rowsF_frz {h:List (Option Blk)} {f:Nat→Nat} {n:Nat} {rows:Nat→List Int} (hl:∀ i,i<n→(rows i).length=n) (hc:∀ i,i<n→cellsAt h (f i)=some (ints (rows i))) (t:Tail):Frz h (.slice (rowsF f n n) n t) (wS ((List.range n).map rows)):=by
 show Frz h _ (.slice (((List.range n).map rows).map sl) ((List.range n).map rows).length .unk)
 rw [show ((List.range n).map rows).length=n by simp]
 refine .slice _ _ _ _ (by simp) fun j x y hx hy => ?_
 have hj:j<n:=by
  rcases zU j n with h' | h'
  ·exact h'
  ·rw [zM (by simpa using h')] at hx;cases hx
 rw [rowsF_get hj] at hx
 simp only [yW] at hx
 subst hx
 rw [List.map_map,qK,qS hj] at hy
 simp only [zW,yW] at hy
 subst hy
 have:=Frz.row (h:=h) (f j) 0 n n 1 _ (cells_block (hc j hj)) (by simp [hl j hj]) (zN _)
 rw [List.drop_zero,List.take_of_length_le (by simp [hl j hj])] at this
 show Frz h _ (.slice (ints (rows j)) (rows j).length .unk)
 rw [hl j hj];exact this
theorem still_pc (s:Survey) (h:Sw s):PC Tryz.prog 146 [surA s] (.pure (wS ((List.range (Lv.num s)).map (zBp (Lv.num s))))):=by
 refine PC.of_frz (AC.run (E_ok _) mix Tryz.func146 m146 rfl rfl rfl (zE rfl) ?_) (by simp [bndL,AV.bnd]) (wS_bnd _)
 obtain ⟨n,hn⟩:∃ n,n=Lv.num s:=⟨_,rfl⟩
 have hst:s.stations=(n:Int):=by have:=h.st;rw [hn];show _=((s.stations.toNat:Nat):Int);omega
 have hn2:2≤n∧n≤8:=by have:=h.st;omega
 rw [← hn]
 simp only [go_sem,boxA,hst,zB,zD,zC,reduceIte,reduceCtorEq,zA]
 refine zAt (fun m ts' S' => ∃ a V nt tk Hh,a≤n∧m=n - a∧ts'=[(1,.ref 0 0),(3,V),(6,.int .i64 n),(7,.int .i64 (a:Nat))]∧S'=⟨Hh,nt,tk⟩∧cellsAt Hh 0=some [.int .i64 n,.slice (sgts s.sights) s.sights.length .unk]∧Hh.length=1+a∧(∀ i,i<a→cellsAt Hh (1+i)=some (ints (zBp n i)))∧Own (rowsF (1 + ·) a n) a V nt tk) n ⟨0,.nilS,0,[],_,qH _,rfl,rfl,rfl,rfl,rfl,fun i hi=>absurd hi (qO _),Own.nil _ _⟩ ?_
 rintro m ts' S' ⟨a,V,nt,tk,Hh,ha,rfl,rfl,rfl,c0,hlen,hrows,ho⟩
 by_cases hlt:a<n
 ·have h1:(a:Int)<n:=by omega
  have h4:IntKind.i64.wrap ((a:Int)+1)=(a+1:Nat):=wrap64 (by omega)
  have lm:(rowsF (1 + ·) a n).length=a * 1:=by simp
  have cax:=fun X=>zAp c0 X
  simp only [go_sem,l146_0,h1,decide_true,c0,zB,zD,zC,reduceIte,reduceCtorEq,zA]
  refine ca n150 (repeat_pc (-1099511627776) n (by omega) (by omega)) (SubL.cons (Sub.unk _ 1 .exact) (SubL.refl _)) ?_
  simp only [go_sem,hlen,zAa,zB,zD,zC,reduceIte,reduceCtorEq,zA]
  refine zDw (lx:=[.sref (1+a) 0 n n]) rowRows ho lm rfl (by decide) rfl (by omega) fun V' tk' g => ?_
  have gt:=g.tok
  have go:=g.own
  rw [rowsF_snoc (1 + ·) a n] at gt go
  have xa:0≤(a:Int)∧(a:Int)<(a+1:Nat):=by omega
  have xb:0≤(a:Int)∧(a:Int)<(n:Nat):=by omega
  have rg:(rowsF (1 + ·) (a+1) n)[a]? = some (.sref (1+a) 0 n n):=rowsF_get (f:=(1 + ·)) (by omega)
  have ce:cellsAt (Hh ++ [some (.cells (ints (List.replicate n (-1099511627776))))]) (1+a)=some (ints (List.replicate n (-1099511627776))):=by rw [← hlen];exact zAg _ _
  have se:setH (Hh ++ [some (.cells (ints (List.replicate n (-1099511627776))))]) (1+a) (.cells ((ints (List.replicate n (-1099511627776))).set a (.int .i64 0)))=Hh ++ [some (.cells (ints (zBp n a)))]:=by rw [← hlen,zAs,zEc];rfl
  have hk1:a+1≤n:=hlt
  rw [gt]
  simp only [go_sem,xa,xb,rg,zAf,yP,and_self,ce,zB,zD,zC,reduceIte,reduceCtorEq,zA]
  rw [← gt]
  simp only [go_sem,AV.cells,AV.one,zL,zO,zJ,splice,zCr,List.length_replicate,zAd,hk1,se,h4,zB,zD,zC,reduceIte,reduceCtorEq,zA]
  refine zAi (n - (a+1)) (by omega) ⟨a+1,V',nt+1,tk',_,hlt,rfl,rfl,rfl,cax _,by simp [hlen];omega,fun i hi => ?_,go⟩
  by_cases e:i=a
  ·subst e;rw [← hlen];exact zAg _ _
  ·exact zAp (hrows i (by omega)) _
 ·have h1:¬ (a:Int)<n:=by omega
  have e:a=n:=by omega
  subst e
  simp only [go_sem,l146_0,h1,decide_false,Tryz.f146,zB,zD,zC,reduceIte,reduceCtorEq,zA]
  have hV:∃ t,V=.slice (rowsF (1 + ·) a a) a t:=by
   rcases ho with ⟨_,_,h0⟩ | ⟨k,hk,_⟩
   ·omega
   ·exact ⟨_,hk⟩
  obtain ⟨t,rfl⟩:=hV
  exact ⟨_,rfl,rowsF_frz (fun i hi=>by simp [zBp]) hrows t⟩
end Go.Av.Lx
end
