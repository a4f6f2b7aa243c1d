/- Part 19 of the proof. -/
import Derived.Test.YtclmbbofpaecaaaGreatDoorVn18
import Derived.Test.YtclmbbofpaecaaaGreatDoorVn14
import Derived.Test.YtclmbbofpaecaaaGreatDoorVn16
set_option linter.all false
set_option linter.unusedVariables false
set_option linter.unusedSimpArgs false
set_option linter.unusedSectionVars false
open Bool renaming and_self → zJ, false_eq_true → zS, not_true → zV, not_false → qF, false_and → qH, true_and → qY, not_eq_true' → yE
open Int renaming toNat_natCast → qO, le_refl → qZ, mul_nonneg → yI
open List renaming getElem?_eq_getElem → zF, getD_eq_getElem?_getD → zG, set_cons_succ → zH, set_cons_zero → zI, all_cons → zL, getElem?_eq_none → zN, all_nil → zO, mem_cons_self → zP, mem_cons_of_mem → zR, getElem_mem → qB, getElem?_map → qK, getElem?_range → qR, map_append → qS, range_succ → yN
open Nat renaming reduceLeDiff → zA, reduceEqDiff → zB, reduceAdd → zC, reduceBEq → zD, le_of_ble_eq_true → zE, le_refl → zM, zero_le → qG, not_lt_zero → qU
open Option renaming map_some → zX
section
set_option maxHeartbeats 1000000
namespace Go.Av.Lx
open Go Go.Av Go.Av.Tb Go.Av.Fx Go.Proofs
open Go.Lv (Sight Survey Sw Sv SightOk)
open Go.Fw (Sq ent Bd Mat)
abbrev kA (s:Survey) (V:Mat):AV:=.agg (kvC s (wS V))
abbrev zeroK:AV:=.agg [.int .i64 0,.nilS,.nilS]
@[go_sem] theorem bd132z:buildA T 132 []=some (.agg [.int .i64 0,.nilS,.nilS]):=rfl
def askedA (s:Survey) (fine:Bool):AV:=
 if zAp s && fine then (match Lv.knownV s with
  | some V=>.tuple [kA s V,.int .i64 0]
  | none=>.tuple [zeroK,.int .i64 7])
 else .tuple [zeroK,.int .i64 2]
theorem askedA_bnd (s:Survey) (fine:Bool):(askedA s fine).bnd 0 0=true:=by
 unfold askedA
 split
 ·split <;> simp [AV.bnd,bndL]
 ·rfl
theorem asked1_ac (s:Survey) (h:Sw s) (hl:s.sights.length≤100) (H:List (Option Blk)) (i j:Nat) (hi:cellsAt H i=some (surC s)) (hj:cellsAt H j=some [.int .i64 0,.nilS,.nilS]) (N:Nat) (toks:List Nat) :
  AC Tryz.prog 144 [.ref i 0,.ref j 0] ⟨H,N,toks⟩ fun e S' =>
   (Lv.knownV s=none ∧ ∃ (a:Int) (A:List (Option Blk)) (nt:Nat) (tk:List Nat),e=.panic (.iface 191 (.agg [.int .i64 a]))∧S'=⟨H ++ A,nt,tk⟩∧N≤nt) ∨
   (∃ V,Lv.knownV s=some V ∧ ∃ (A C:List (Option Blk)) (t:Tail) (nt:Nat) (tk:List Nat),e=.ret (.tuple [])∧S'=⟨setH (H ++ (A ++ (heapR V ++ C))) j (.cells (kvC s (.slice (rowsO (H.length+3) (Lv.num s) (Lv.num s)) (Lv.num s) t))),nt,tk⟩∧A.length=3∧N≤nt):=by
 refine AC.run (Es_ok _ _) mix Tryz.func144 m144 rfl rfl rfl (zE rfl) ?_
 simp only [go_sem,hi,hj,zB,zD,zC,reduceIte,reduceCtorEq,zA]
 refine zCb (E:=Es _ _) n94 (known_ac s h hl [] (by simp) (fun x hx=>by cases hx) .nilS H N toks (.inl ⟨rfl,rfl⟩)) (fun v S' hR => ?_) (fun v S' hR => ?_)
 ·rcases hR with ⟨_,_,_,_,_,e,_⟩ | ⟨V,hV,A,C,t,nt,tk,e,rfl,h3,hnt⟩
  ·cases e
  ·cases e
   have hc:=zAn hj (A ++ (heapR V ++ C))
   simp only [go_sem,hc,zAd,AV.cells,AV.one,zL,zO,zJ,splice,zI,zH,Tryz.f144,zB,zD,zC,reduceIte,reduceCtorEq,zA]
   exact .inr ⟨V,hV,A,C,t,nt,tk,rfl,rfl,h3,hnt⟩
 ·rcases hR with ⟨h0,a,A,nt,tk,e,rfl,hnt⟩ | ⟨V,hV,A,C,t,nt,tk,e,rfl,h3,hnt⟩
  ·cases e
   exact .inl ⟨h0,a,A,nt,tk,rfl,rfl,hnt⟩
  ·cases e
theorem kv_frz {s:Survey} {V:Mat} {A C:List (Option Blk)} {n:Nat} (h:Sq n V) {off:Nat} (ho:A.length=off) (t:Tail):Frz (A ++ (heapR V ++ C)) (.agg (kvC s (.slice (rowsO off n n) n t))) (kA s V):=by
 refine .agg _ _ rfl fun j x y hx hy => ?_
 match j,hx,hy with
 | 0,hx,hy=>simp [kvC] at hx hy;subst hx;subst hy;exact .same _
 | 1,hx,hy=>simp [kvC] at hx hy;subst hx;subst hy;exact .same _
 | 2,hx,hy =>
  simp [kvC] at hx hy;subst hx;subst hy
  exact grid_frz h ho t
 | j+3,hx,hy=>simp [kvC] at hx
theorem zCd (s:Survey) (hl:okL s.sights.length) (fine:Bool):PC Tryz.prog 86 [surA s,.bool fine] (.pure (askedA s fine)):=by
 refine PC.of_frz (AC.run (E_ok _) mix Tryz.func86 m86 rfl rfl rfl (zE rfl) ?_) (by simp [bndL,AV.bnd]) (askedA_bnd _ _)
 unfold askedA
 simp only [go_sem,boxA,zB,zD,zC,reduceIte,reduceCtorEq,zA]
 refine cp n89 (zBn s hl) (SubL.refl _) ?_
 cases h:zAp s
 ·simp only [go_sem,zAg,qF,Tryz.f86,qH,zB,zD,zC,reduceIte,reduceCtorEq,zA]
  exact ⟨_,rfl,.same _⟩
 cases fine
 ·simp only [go_sem,zAg,qF,zV,Tryz.f86,Bool.and_false,zB,zD,zC,reduceIte,reduceCtorEq,zA]
  exact ⟨_,rfl,.same _⟩
 have hv:=zCk.1 h
 simp only [go_sem,zAg,zV,zJ,zB,zD,zC,reduceIte,reduceCtorEq,zA]
 refine cac (R:=fun e S'=>(Lv.knownV s=none∧e=.ret (.int .i64 7) ∧ ∃ (X:List (Option Blk)) (nt:Nat) (tk:List Nat),S'=⟨[some (.cells (surC s)),some (.cells [.int .i64 0,.nilS,.nilS]),some (.cells [.int .i64 0,.nilS,.nilS])] ++ X,nt,tk⟩) ∨
   (∃ V,Lv.knownV s=some V∧e=.ret (.int .i64 0) ∧ ∃ (A C:List (Option Blk)) (t:Tail) (nt:Nat) (tk:List Nat),S'=⟨some (.cells (surC s)) :: some (.cells [.int .i64 0,.nilS,.nilS]) :: some (.cells (kvC s (.slice (rowsO 7 (Lv.num s) (Lv.num s)) (Lv.num s) t))) :: some (.cells [.int .i64 0]) :: (A ++ (heapR V ++ C)),nt,tk⟩∧A.length=3)) n92 (try_ac (S:=⟨[some (.cells (surC s)),some (.cells [.int .i64 0,.nilS,.nilS]),some (.cells [.int .i64 0,.nilS,.nilS])],0,[]⟩) n144 (asked1_ac s hv.toSw (by have:=hv.many;omega) _ 0 2 rfl rfl 0 []) ?_ ?_) ?_ ?_
 ·rintro v S' (⟨_,_,_,_,_,e,_⟩ | ⟨V,hV,A,C,t,nt,tk,e,rfl,h3,hnt⟩)
  ·cases e
  ·cases e
   exact ⟨rfl,.inr ⟨V,hV,rfl,A,C,t,nt,tk,rfl,h3⟩⟩
 ·rintro v S' (⟨h0,a,A,nt,tk,e,rfl,hnt⟩ | ⟨V,hV,A,C,t,nt,tk,e,rfl,h3,hnt⟩)
  ·cases e
   exact ⟨rfl,.inl ⟨a,rfl,.inl ⟨h0,rfl,some (.cells [.int .i64 7]) :: (A ++ [some (.cells [.int .i64 a])]),nt,tk,rfl⟩⟩⟩
  ·cases e
 ·rintro v S' (⟨h0,e,X,nt,tk,rfl⟩ | ⟨V,hV,e,A,C,t,nt,tk,rfl,h3⟩)
  ·cases e
   rw [h0]
   simp only [go_sem,Tryz.f86,zB,zD,zC,reduceIte,reduceCtorEq,zA]
   exact ⟨_,rfl,.same _⟩
  ·cases e
   rw [hV]
   have hsq:Sq (Lv.num s) V:=zBk (ds:=[]) hV
   simp only [go_sem,Tryz.f86,zB,zD,zC,reduceIte,reduceCtorEq,zA]
   refine ⟨_,rfl,Frz.two ?_ (.same _)⟩
   exact kv_frz (A:=some (.cells (surC s)) :: some (.cells (kvC s (.slice (rowsO 7 (Lv.num s) (Lv.num s)) (Lv.num s) t))) :: some (.cells (kvC s (.slice (rowsO 7 (Lv.num s) (Lv.num s)) (Lv.num s) t))) :: some (.cells [.int .i64 0]) :: A) hsq (by simp [h3]) t
 ·rintro v S' (⟨h0,e,X,nt,tk,rfl⟩ | ⟨V,hV,e,A,C,t,nt,tk,rfl,h3⟩)
  ·cases e
  ·cases e
theorem joined_pc (s:Survey) {V:Mat} {n:Nat} (h:Sq n V) {i j:Nat} (hi:i<n) (hj:j<n):PC Tryz.prog 105 [kA s V,.int .i64 i,.int .i64 j] (.pure (.bool (decide (ent V i j<far)))):=by
 refine PC.of_empty (AC.run (E_ok _) mix Tryz.func105 m105 rfl rfl rfl (zE rfl) ?_) (by simp [bndL,AV.bnd]) rfl
 have ga:=zDl h hi
 have gl:=h.getD hi
 have e:=zBe h hi hj
 have xa:0≤(i:Int)∧(i:Int)<(V.length:Int):=by have:=h.1;omega
 have xb:0≤(j:Int)∧(j:Int)<(n:Int):=by omega
 simp only [go_sem,boxA,xa,xb,ga,gl,e,zAi,and_self,Tryz.f105,zB,zD,zC,reduceIte,reduceCtorEq,zA]
 rfl
theorem greatest_pc (s:Survey) {V:Mat} {n:Nat} (h:Sq n V) {i j:Nat} (hi:i<n) (hj:j<n):PC Tryz.prog 143 [kA s V,.int .i64 i,.int .i64 j] (.pure (.int .i64 (ent V i j))):=by
 refine PC.of_empty (AC.run (E_ok _) mix Tryz.func143 m143 rfl rfl rfl (zE rfl) ?_) (by simp [bndL,AV.bnd]) rfl
 have ga:=zDl h hi
 have gl:=h.getD hi
 have e:=zBe h hi hj
 have xa:0≤(i:Int)∧(i:Int)<(V.length:Int):=by have:=h.1;omega
 have xb:0≤(j:Int)∧(j:Int)<(n:Int):=by omega
 simp only [go_sem,boxA,xa,xb,ga,gl,e,zAi,and_self,Tryz.f143,zB,zD,zC,reduceIte,reduceCtorEq,zA]
theorem least_pc (s:Survey) {V:Mat} {n:Nat} (h:Sq n V) {i j:Nat} (hi:i<n) (hj:j<n):PC Tryz.prog 95 [kA s V,.int .i64 i,.int .i64 j] (.pure (.int .i64 (IntKind.i64.wrap (0 - ent V j i)))):=by
 refine PC.of_empty (AC.run (E_ok _) mix Tryz.func95 m95 rfl rfl rfl (zE rfl) ?_) (by simp [bndL,AV.bnd]) rfl
 have ga:=zDl h hj
 have gl:=h.getD hj
 have e:=zBe h hj hi
 have xa:0≤(j:Int)∧(j:Int)<(V.length:Int):=by have:=h.1;omega
 have xb:0≤(i:Int)∧(i:Int)<(n:Int):=by omega
 simp only [go_sem,boxA,xa,xb,ga,gl,e,zAi,and_self,unA,Tryz.f95,zB,zD,zC,reduceIte,reduceCtorEq,zA]
def spanA (V:Mat) (i j:Nat):AV:=.agg [.int .i64 (IntKind.i64.wrap (0 - ent V j i)),.int .i64 (ent V i j)]
theorem span_pc (s:Survey) {V:Mat} {n:Nat} (h:Sq n V) {i j:Nat} (hi:i<n) (hj:j<n):PC Tryz.prog 85 [kA s V,.int .i64 i,.int .i64 j] (.pure (spanA V i j)):=by
 refine PC.of_empty (AC.run (E_ok _) mix Tryz.func85 m85 rfl rfl rfl (zE rfl) ?_) (by simp [bndL,AV.bnd]) rfl
 have hz:buildA T 187 [(0,.func (.func 95) [] []),(1,.func (.func 143) [] [])]=some (.agg [.func (.func 95) [] [],.func (.func 143) [] []]):=rfl
 have x0:indexA T 187 (.agg [.func (.func 95) [] [],.func (.func 143) [] []]) (.int .i64 ((0:Nat):Int))=some (.func (.func 95) [] []):=rfl
 have x1:indexA T 187 (.agg [.func (.func 95) [] [],.func (.func 143) [] []]) (.int .i64 ((1:Nat):Int))=some (.func (.func 143) [] []):=rfl
 simp only [go_sem,boxA,hz,zB,zD,zC,reduceIte,reduceCtorEq,zA]
 refine zDy 2 (fun k=>[(1,.int .i64 i),(2,.int .i64 j),(3,.ref 0 0),(6,.ref 1 0),(7,.ref 2 0),(10,.agg [.func (.func 95) [] [],.func (.func 143) [] []]),(11,.int .i64 k)])
  (fun k=>⟨[some (.cells [.int .i64 s.stations,.slice (sgts s.sights) s.sights.length .unk,wS V]),some (.cells [.int .i64 0,.int .i64 0]),some (.cells (match k with | 0=>[.int .i64 0,.int .i64 0] | 1=>[.int .i64 (IntKind.i64.wrap (0 - ent V j i)),.int .i64 0] | _=>[.int .i64 (IntKind.i64.wrap (0 - ent V j i)),.int .i64 (ent V i j)]))],0,[]⟩) rfl rfl ?_
 intro k hk I hI
 match k,hk,hI with
 | 0,_,hI =>
  have h1:(((0:Nat):Int)<2):=by decide
  have h2:(0:Int)≤((0:Nat):Int)∧((0:Nat):Int)<((2:Nat):Int):=by decide
  have h3:IntKind.i64.wrap (((0:Nat):Int)+1)=(1:Nat):=by decide
  have hI:=hI (by decide)
  simp only [go_sem,l85_0,h1,decide_true,zB,zD,zC,reduceIte,reduceCtorEq,zA]
  simp only [go_sem,x0,x1,zB,zD,zC,reduceIte,reduceCtorEq,zA]
  refine cp n95 (least_pc s h hi hj) (SubL.refl _) ?_
  simp only [go_sem,h2,h3,zAi,and_self,zAd,AV.cells,AV.one,zL,zO,zJ,splice,zI,zH,zB,zD,zC,reduceIte,reduceCtorEq,zA]
  exact hI
 | 1,_,hI =>
  have h1:(((1:Nat):Int)<2):=by decide
  have h2:(0:Int)≤((1:Nat):Int)∧((1:Nat):Int)<((2:Nat):Int):=by decide
  have h3:IntKind.i64.wrap (((1:Nat):Int)+1)=(2:Nat):=by decide
  have hI:=hI (by decide)
  simp only [go_sem,l85_0,h1,decide_true,zB,zD,zC,reduceIte,reduceCtorEq,zA]
  simp only [go_sem,x0,x1,zB,zD,zC,reduceIte,reduceCtorEq,zA]
  refine cp n143 (greatest_pc s h hi hj) (SubL.refl _) ?_
  simp only [go_sem,h2,h3,zAi,and_self,zAd,AV.cells,AV.one,zL,zO,zJ,splice,zI,zH,zB,zD,zC,reduceIte,reduceCtorEq,zA]
  exact hI
 | 2,_,hI =>
  have h1:¬ (((2:Nat):Int)<2):=by decide
  have q0:(0:Int)≤0∧(0:Int)<((2:Nat):Int):=by decide
  have q1:(0:Int)≤1∧(1:Int)<((2:Nat):Int):=by decide
  have z0:Int.toNat 0=0:=rfl
  have z1:Int.toNat 1=1:=rfl
  simp only [go_sem,l85_0,h1,decide_false,q0,q1,z0,z1,Tryz.f85,zB,zD,zC,reduceIte,reduceCtorEq,zA]
  rfl
 | k+3,hk,_=>omega
set_option maxHeartbeats 1000000
def zCp (s:Survey) (i j:Int) (fine:Bool):AV:=
 if zAp s && (fine && (staB s i && staB s j)) then (match Lv.knownV s with
  | some V=>if ent V i.toNat j.toNat<far then .tuple [kA s V,.int .i64 0] else .tuple [zeroK,.int .i64 5]
  | none=>.tuple [zeroK,.int .i64 7])
 else .tuple [zeroK,.int .i64 2]
theorem betweenA_bnd (s:Survey) (i j:Int) (fine:Bool):(zCp s i j fine).bnd 0 0=true:=by
 unfold zCp
 split
 ·split
  ·split <;> simp [AV.bnd,bndL]
  ·rfl
 ·rfl
theorem zCh (s:Survey) (hl:okL s.sights.length) (i j:Int) (fine:Bool):PC Tryz.prog 84 [surA s,.int .i64 i,.int .i64 j,.bool fine] (.pure (zCp s i j fine)):=by
 refine PC.of_empty (AC.run (E_ok _) mix Tryz.func84 m84 rfl rfl rfl (zE rfl) ?_) (by simp [bndL,AV.bnd]) (betweenA_bnd _ _ _ _)
 unfold zCp
 have hno:∀ b,b=false→askedA s b=.tuple [zeroK,.int .i64 2]:=fun b e=>by subst e;unfold askedA;rw [Bool.and_false];rfl
 simp only [go_sem,boxA,zB,zD,zC,reduceIte,reduceCtorEq,zA]
 cases fine
 ·simp only [go_sem,qH,Bool.and_false,zB,zD,zC,reduceIte,reduceCtorEq,zA]
  refine qp n86 (zCd s hl false) (SubL.refl _) ?_
  rw [hno false rfl]
  simp only [go_sem,zAc,Tryz.f84,zB,zD,zC,reduceIte,reduceCtorEq,zA]
  simp
 simp only [go_sem,qY,zB,zD,zC,reduceIte,reduceCtorEq,zA]
 refine qp n142 (zCo s i) (SubL.refl _) ?_
 cases hi:staB s i
 ·simp only [go_sem,qH,Bool.and_false,zB,zD,zC,reduceIte,reduceCtorEq,zA]
  refine qp n86 (zCd s hl false) (SubL.refl _) ?_
  rw [hno false rfl]
  simp only [go_sem,zAc,Tryz.f84,zB,zD,zC,reduceIte,reduceCtorEq,zA]
  simp
 simp only [go_sem,qY,zB,zD,zC,reduceIte,reduceCtorEq,zA]
 refine qp n142 (zCo s j) (SubL.refl _) ?_
 cases hj:staB s j
 ·simp only [go_sem,Bool.and_false,zB,zD,zC,reduceIte,reduceCtorEq,zA]
  refine qp n86 (zCd s hl false) (SubL.refl _) ?_
  rw [hno false rfl]
  simp only [go_sem,zAc,Tryz.f84,zB,zD,zC,reduceIte,reduceCtorEq,zA]
  simp
 simp only [go_sem,Bool.and_true,zB,zD,zC,reduceIte,reduceCtorEq,zA]
 refine qp n86 (zCd s hl true) (SubL.refl _) ?_
 unfold askedA
 cases hs:zAp s
 ·simp only [go_sem,qH,zAc,Tryz.f84,zB,zD,zC,reduceIte,reduceCtorEq,zA]
 have hv:=zCk.1 hs
 cases hV:Lv.knownV s with
 | none=>simp only [go_sem,zJ,zAc,Tryz.f84,zB,zD,zC,reduceIte,reduceCtorEq,zA]
 | some V =>
  obtain ⟨a,rfl⟩:∃ a:Nat,i=a:=⟨i.toNat,by have:=(zBd hv.st).1 hi;omega⟩
  obtain ⟨b,rfl⟩:∃ b:Nat,j=b:=⟨j.toNat,by have:=(zBd hv.st).1 hj;omega⟩
  have ha:a<Lv.num s:=by have:=(zBd hv.st).1 hi;show a<s.stations.toNat;omega
  have hb:b<Lv.num s:=by have:=(zBd hv.st).1 hj;show b<s.stations.toNat;omega
  simp only [go_sem,zJ,zAc,kvC,zB,zD,zC,reduceIte,reduceCtorEq,zA]
  refine cp n105 (joined_pc s (zBk (ds:=[]) hV) ha hb) (SubL.refl _) ?_
  try simp only [qO]
  by_cases hf:ent V a b<far
  ·rw [if_pos hf]
   simp only [go_sem,hf,decide_true,zAg,zV,Tryz.f84,zB,zD,zC,reduceIte,reduceCtorEq,zA]
  ·rw [if_neg hf]
   simp only [go_sem,hf,decide_false,zAg,qF,Tryz.f84,zB,zD,zC,reduceIte,reduceCtorEq,zA]
@[go_sem] theorem bd28z:buildA T 28 []=some (.agg [.int .i64 0,.int .i64 0]):=rfl
def boundsA (s:Survey) (i j:Int):AV:=
 if zAp s && (staB s i && staB s j) then (match Lv.knownV s with
  | some V=>if ent V i.toNat j.toNat<far then .tuple [spanA V i.toNat j.toNat,.int .i64 0] else .tuple [.agg [.int .i64 0,.int .i64 0],.int .i64 5]
  | none=>.tuple [.agg [.int .i64 0,.int .i64 0],.int .i64 7])
 else .tuple [.agg [.int .i64 0,.int .i64 0],.int .i64 2]
theorem boundsA_bnd (s:Survey) (i j:Int):(boundsA s i j).bnd 0 0=true:=by
 unfold boundsA
 split
 ·split
  ·split <;> rfl
  ·rfl
 ·rfl
theorem Bounds_pc (s:Survey) (hl:okL s.sights.length) (i j:Int):PC Tryz.prog 25 [surA s,.int .i64 i,.int .i64 j] (.pure (boundsA s i j)):=by
 refine PC.of_empty (AC.run (E_ok _) mix Tryz.func25 m25 rfl rfl rfl (zE rfl) ?_) (by simp [bndL,AV.bnd]) (boundsA_bnd _ _ _)
 unfold boundsA
 simp only [go_sem,boxA,zB,zD,zC,reduceIte,reduceCtorEq,zA]
 refine cp n84 (zCh s hl i j true) (SubL.refl _) ?_
 unfold zCp
 cases hs:zAp s
 ·simp only [go_sem,qH,zAc,Tryz.f25,zB,zD,zC,reduceIte,reduceCtorEq,zA]
 cases hi:staB s i
 ·simp only [go_sem,qH,Bool.and_false,zAc,Tryz.f25,zB,zD,zC,reduceIte,reduceCtorEq,zA]
 cases hj:staB s j
 ·simp only [go_sem,Bool.and_false,zAc,Tryz.f25,zB,zD,zC,reduceIte,reduceCtorEq,zA]
 have hv:=zCk.1 hs
 cases hV:Lv.knownV s with
 | none=>simp only [go_sem,zJ,zAc,Tryz.f25,zB,zD,zC,reduceIte,reduceCtorEq,zA]
 | some V =>
  obtain ⟨a,rfl⟩:∃ a:Nat,i=a:=⟨i.toNat,by have:=(zBd hv.st).1 hi;omega⟩
  obtain ⟨b,rfl⟩:∃ b:Nat,j=b:=⟨j.toNat,by have:=(zBd hv.st).1 hj;omega⟩
  have ha:a<Lv.num s:=by have:=(zBd hv.st).1 hi;show a<s.stations.toNat;omega
  have hb:b<Lv.num s:=by have:=(zBd hv.st).1 hj;show b<s.stations.toNat;omega
  try simp only [qO]
  by_cases hf:ent V a b<far
  ·rw [if_pos hf,if_pos hf]
   simp only [go_sem,zJ,zAc,kvC,zB,zD,zC,reduceIte,reduceCtorEq,zA]
   refine cp n85 (span_pc s (zBk (ds:=[]) hV) ha hb) (SubL.refl _) ?_
   simp only [go_sem,spanA,Tryz.f25,zB,zD,zC,reduceIte,reduceCtorEq,zA]
  ·rw [if_neg hf,if_neg hf]
   simp only [go_sem,zJ,zAc,Tryz.f25,zB,zD,zC,reduceIte,reduceCtorEq,zA]
def baseG (V:Mat) (n j:Nat):Nat:=((List.range n).find? fun b=>decide (ent V b j<far)).getD j
theorem base_pc (s:Survey) {V:Mat} {n:Nat} (hst:s.stations=(n:Int)) (hn:n≤1000) (h:Sq n V) {j:Nat} (hj:j<n):PC Tryz.prog 87 [kA s V,.int .i64 j] (.pure (.int .i64 (baseG V n j))):=by
 refine PC.of_empty (AC.run (E_ok _) mix Tryz.func87 m87 rfl rfl rfl (zE rfl) ?_) (by simp [bndL,AV.bnd]) rfl
 simp only [go_sem,boxA,zB,zD,zC,reduceIte,reduceCtorEq,zA]
 refine zBi n (fun k => ∀ b,b<k → ¬ ent V b j<far) (fun k=>[(1,.int .i64 j),(2,.ref 0 0),(8,.int .i64 s.stations),(9,.int .i64 k)]) (fun k=>⟨[some (.cells [.int .i64 s.stations,.slice (sgts s.sights) s.sights.length .unk,wS V])],0,[]⟩) (fun b hb=>absurd hb (qU _)) rfl rfl ?_
 intro k hk hP I hI
 by_cases hlt:k<n
 ·have h1:(k:Int)<s.stations:=by omega
  have h4:IntKind.i64.wrap ((k:Int)+1)=(k+1:Nat):=wrap64 (by omega)
  simp only [go_sem,l87_0,h1,decide_true,zB,zD,zC,reduceIte,reduceCtorEq,zA]
  have hp:=joined_pc s h hlt hj
  refine cp n105 hp (SubL.refl _) ?_
  by_cases hf:ent V k j<far
  ·have hb:baseG V n j=k:=by
    unfold baseG
    have:(List.range n).find? (fun b=>decide (ent V b j<far))=some k:=by
     rw [List.find?_eq_some_iff_append]
     refine ⟨by rw [decide_eq_true hf],List.range k,(List.range (n - (k+1))).map (fun x=>k+1+x), ?_,fun b hb => ?_⟩
     ·have:n=k+1+(n - (k+1)):=by omega
      conv=>lhs;rw [this,List.range_add,yN]
      simp
     ·have:=hP b (List.mem_range.1 hb)
      simp [this]
    rw [this];rfl
   simp only [go_sem,hf,decide_true,Tryz.f87,zB,zD,zC,reduceIte,reduceCtorEq,zA]
   rw [hb]
  ·simp only [go_sem,hf,decide_false,h4,zB,zD,zC,reduceIte,reduceCtorEq,zA]
   refine hI hlt fun b hb => ?_
   by_cases e:b=k
   ·subst e;exact hf
   ·exact hP b (by omega)
 ·have h1:¬ (k:Int)<s.stations:=by omega
  have hb:baseG V n j=j:=by
   unfold baseG
   have:(List.range n).find? (fun b=>decide (ent V b j<far))=none:=by
    rw [List.find?_eq_none]
    intro b hb
    have:=hP b (by have:=List.mem_range.1 hb;omega)
    simp [this]
   rw [this];rfl
  simp only [go_sem,l87_0,h1,decide_false,Tryz.f87,zB,zD,zC,reduceIte,reduceCtorEq,zA]
  rw [hb]
end Go.Av.Lx
end
section
namespace Go.Av.Lx
open Go Go.Av Go.Av.Tb Go.Av.Fx Go.Proofs
def Own (l:List AV) (n:Nat) (V:AV) (nt:Nat) (toks:List Nat):Prop:=(V=.nilS∧l=[]∧n=0) ∨ ∃ k,V=.slice l n (.tok k)∧k∈toks∧k<nt
def tokOf:AV→Option Nat
 | .slice _ _ (.tok k)=>some k
 | _=>none
def Apart (V W:AV):Prop:=∀ k,tokOf V=some k→tokOf W≠some k
theorem Apart.symm {V W:AV} (h:Apart V W):Apart W V:=fun k h1 h2=>h k h2 h1
theorem Own.nil (nt:Nat) (toks:List Nat):Own [] 0 .nilS nt toks:=.inl ⟨rfl,rfl,rfl⟩
theorem apart_nil (W:AV):Apart .nilS W:=fun k h=>by cases h
theorem Own.cells {l:List AV} {n:Nat} {V:AV} {nt:Nat} {toks:List Nat} (h:Own l n V nt toks):V.cells=[V]∧V.one=true:=by
 rcases h with ⟨rfl,_,rfl⟩ | ⟨k,rfl,_,_⟩
 ·exact ⟨rfl,rfl⟩
 ·exact ⟨rfl,rfl⟩
theorem Own.frz {l:List AV} {n:Nat} {V:AV} {nt:Nat} {toks:List Nat} (h:Own l n V nt toks) (H:List (Option Blk)):Frz H V (.slice l n .unk):=by
 rcases h with ⟨rfl,rfl,rfl⟩ | ⟨k,rfl,_,_⟩
 ·exact .nil
 ·exact .unk _ _ _
theorem Own.sub {l:List AV} {n:Nat} {V:AV} {nt:Nat} {toks:List Nat} (h:Own l n V nt toks):Sub V (.slice l n .unk):=by
 rcases h with ⟨rfl,rfl,rfl⟩ | ⟨k,rfl,_,_⟩
 ·exact Sub.nil
 ·exact Sub.unk _ _ _
structure Grown (V V':AV) (l:List AV) (n:Nat) (nt:Nat) (toks toks':List Nat):Prop where
 own:Own l n V' (nt+1) toks'
 tok:V'=.slice l n (.tok nt)
 keep:∀ W l2 n2,Own l2 n2 W nt toks→Apart V W→Own l2 n2 W (nt+1) toks'∧Apart V' W
structure RowT (t e:TypeId) (z:Nat):Prop where
 ds:descOf T t=some (.slice e)
 te:∃ ei,T e=some ei∧ei.size=z∧ei.bytes≤1000
 z:z≠0
theorem Own.len {t e:TypeId} {z:Nat} (ht:RowT t e z) {l:List AV} {n:Nat} {V:AV} {nt:Nat} {toks:List Nat} (h:Own l n V nt toks) (S:St):zAa T S .len [t] [V]=some (.pure (.int .i64 n)):=by
 rcases h with ⟨rfl,_,rfl⟩ | ⟨k,rfl,_,_⟩
 ·simp [zAa,lenA,ht.ds]
 ·simp [zAa,lenA,ht.ds]
theorem own_grow {t e:TypeId} {z:Nat} (ht:RowT t e z) {l lx:List AV} {n nx:Nat} {V:AV} {nt:Nat} {toks:List Nat} (h:Own l n V nt toks) (hl:l.length=n * z) (hx:lx.length=nx * z) (hnx:nx≠0) (h1:lx.all AV.one=true) (hlim:n+nx≤1000000) (b:St) (tx:Tail) :
  ∃ kill V' toks',appendA T b t V (.slice lx nx tx)=some (.tok kill fun j=>.slice (l ++ lx) (n+nx) (.tok j))∧(∀ k,kill=some k→k∈toks)∧toks'=nt :: killTok toks kill∧V'=.slice (l ++ lx) (n+nx) (.tok nt)∧Grown V V' (l ++ lx) (n+nx) nt toks toks':=by
 obtain ⟨ei,he,hz,hb⟩:=ht.te
 have hheld:heldA b ei.size (.slice lx nx tx)=some (lx,nx):=by
  unfold heldA
  simp [hz,hx]
 have hbb:(n+nx) * ei.bytes≤1099511627776:=Nat.le_trans (Nat.mul_le_mul hlim hb) (by decide)
 rcases h with ⟨rfl,rfl,rfl⟩ | ⟨k,rfl,hk,hkn⟩
 ·refine ⟨none,_,_, ?_,(fun k h=>by cases h),rfl,rfl,⟨.inr ⟨nt,rfl,zP,Nat.lt_succ_self _⟩,rfl,fun W l2 n2 hW _ => ?_⟩⟩
  ·unfold appendA
   have hz':ei.size≠0:=by rw [hz];exact ht.z
   rw [ht.ds]
   simp only [he]
   rw [if_neg hz',hheld]
   simp only [if_neg hnx,h1,zV,zS,if_false]
   rw [if_pos ⟨by simpa using hbb,by omega⟩]
   simp
  ·rcases hW with ⟨rfl,rfl,rfl⟩ | ⟨j,rfl,hj,hjn⟩
   ·exact ⟨Own.nil _ _,(apart_nil _).symm⟩
   ·exact ⟨.inr ⟨j,rfl,zR _ hj,by omega⟩,fun q h1 h2=>by simp [tokOf] at h1 h2;omega⟩
 ·refine ⟨some k,_,_,zCs ht.ds he (by rw [hz];exact ht.z) hheld hnx h1 hbb (by omega) (by rw [hz];exact hl),(fun j h=>by cases h;exact hk),rfl,rfl,⟨.inr ⟨nt,rfl,zP,Nat.lt_succ_self _⟩,rfl,fun W l2 n2 hW ha => ?_⟩⟩
  rcases hW with ⟨rfl,rfl,rfl⟩ | ⟨j,rfl,hj,hjn⟩
  ·exact ⟨Own.nil _ _,(apart_nil _).symm⟩
  ·have hne:j≠k:=fun e=>ha k rfl (by simp [tokOf,e])
   exact ⟨.inr ⟨j,rfl,zR _ (List.mem_filter.2 ⟨hj,by simpa using hne⟩),by omega⟩,fun q h1 h2=>by simp [tokOf] at h1 h2;omega⟩
theorem zEa {t e:TypeId} {z:Nat} (ht:RowT t e z) {l lx:List AV} {n nx:Nat} {V:AV} {nt:Nat} {toks:List Nat} (h:Own l n V nt toks) (hl:l.length=n * z) (hx:lx.length=nx * z) (hnx:nx≠0) (h1:lx.all AV.one=true) (hlim:n+nx≤1000000) {b:St} {tx:Tail} {H:List (Option Blk)} {K:AV→St→Prop} {hK:Hold K}
  (next:∀ V' toks',Grown V V' (l ++ lx) (n+nx) nt toks toks'→K V' ⟨H,nt+1,toks'⟩):sr K hK (appendA T b t V (.slice lx nx tx)) ⟨H,nt,toks⟩:=by
 obtain ⟨kill,V',toks',e,hk,rfl,rfl,hg⟩:=own_grow ht h hl hx hnx h1 hlim b tx
 rw [e]
 cases kill with
 | none=>rw [sr_tok];exact next _ _ hg
 | some k=>rw [zBu];exact ⟨hk k rfl,next _ _ hg⟩
theorem own_sq {t e:TypeId} {z:Nat} (ht:RowT t e z) {l lx:List AV} {n nx:Nat} {V:AV} {nt:Nat} {toks:List Nat} (h:Own l n V nt toks) (hl:l.length=n * z) (hx:lx.length=nx * z) (hnx:nx≠0) (h1:lx.all AV.one=true) (hlim:n+nx≤1000000) {b:St} {tx:Tail} {H:List (Option Blk)} {K:AV→St→Prop} {hK:Hold K}
  (next:∀ V' toks',Grown V V' (l ++ lx) (n+nx) nt toks toks'→K V' ⟨H,nt+1,toks'⟩):sq K hK (appendA T b t V (.slice lx nx tx)) ⟨H,nt,toks⟩:=by
 obtain ⟨kill,V',toks',e,hk,rfl,rfl,hg⟩:=own_grow ht h hl hx hnx h1 hlim b tx
 rw [e]
 cases kill with
 | none=>rw [sq_tok];exact next _ _ hg
 | some k=>rw [sq_tok_some];exact ⟨hk k rfl,next _ _ hg⟩
theorem rowInts:RowT 32 3 1:=⟨rfl,⟨_,rfl,rfl,by decide⟩,by decide⟩
theorem rowRows:RowT 35 32 1:=⟨rfl,⟨_,rfl,rfl,by decide⟩,by decide⟩
theorem zEs:RowT 22 85 4:=⟨rfl,⟨_,rfl,rfl,by decide⟩,by decide⟩
theorem rowChoices:RowT 153 155 2:=⟨rfl,⟨_,rfl,rfl,by decide⟩,by decide⟩
end Go.Av.Lx
end
section
set_option maxHeartbeats 1000000
namespace Go.Av.Lx
open Go Go.Av Go.Av.Tb Go.Av.Fx Go.Proofs
open Go.Lv (Sight Survey Sw Sv SightOk)
open Go.Fw (Sq ent Bd Mat)
def lowAt (V:Mat) (n j:Nat):Int:=IntKind.i64.wrap (0 - ent V j (baseG V n j))
def highAt (V:Mat) (n j:Nat):Int:=ent V (baseG V n j) j
theorem ints_app (l l':List Int):ints l ++ ints l'=ints (l ++ l'):=by simp [ints]
theorem baseG_lt (V:Mat) {n j:Nat} (hj:j<n):baseG V n j<n:=by
 unfold baseG
 cases h:(List.range n).find? fun b=>decide (ent V b j<far) with
 | none=>exact hj
 | some b=>exact List.mem_range.1 (List.mem_of_find?_eq_some h)
def zEt (s:Survey):AV:=
 if zAp s=true then (match Lv.knownV s with
  | some V=>.tuple [sl ((List.range (Lv.num s)).map (lowAt V (Lv.num s))),sl ((List.range (Lv.num s)).map (highAt V (Lv.num s))),.int .i64 0]
  | none=>.tuple [.nilS,.nilS,.int .i64 7])
 else .tuple [.nilS,.nilS,.int .i64 2]
theorem heightsA_bnd (s:Survey):(zEt s).bnd 0 0=true:=by
 unfold zEt
 split
 ·split
  ·simp [AV.bnd,bndL]
  ·rfl
 ·rfl
theorem frz_three {h:List (Option Blk)} {a b c a' b' c':AV} (h1:Frz h a a') (h2:Frz h b b') (h3:Frz h c c'):Frz h (.tuple [a,b,c]) (.tuple [a',b',c']):=
 .tuple _ _ rfl fun j x y hx hy=>by
  match j,hx,hy with
  | 0,hx,hy=>simp at hx hy;subst hx;subst hy;exact h1
  | 1,hx,hy=>simp at hx hy;subst hx;subst hy;exact h2
  | 2,hx,hy=>simp at hx hy;subst hx;subst hy;exact h3
  | j+3,hx,hy=>simp at hx
theorem Heights_pc (s:Survey) (hl:okL s.sights.length):PC Tryz.prog 26 [surA s] (.pure (zEt s)):=by
 refine PC.of_frz (AC.run (E_ok _) mix Tryz.func26 m26 rfl rfl rfl (zE rfl) ?_) (by simp [bndL,AV.bnd]) (heightsA_bnd s)
 unfold zEt
 simp only [go_sem,boxA,zB,zD,zC,reduceIte,reduceCtorEq,zA]
 refine cp n86 (zCd s hl true) (SubL.refl _) ?_
 unfold askedA
 cases hs:zAp s
 ·simp only [go_sem,qH,zAc,Tryz.f26,zB,zD,zC,reduceIte,reduceCtorEq,zA]
  exact ⟨_,rfl,.same _⟩
 have hv:=zCk.1 hs
 cases hV:Lv.knownV s with
 | none =>
  simp only [go_sem,zJ,zAc,Tryz.f26,zB,zD,zC,reduceIte,reduceCtorEq,zA]
  exact ⟨_,rfl,.same _⟩
 | some V =>
  have hsq:Sq (Lv.num s) V:=zBk (ds:=[]) hV
  have hst:s.stations=(Lv.num s:Int):=by have:=hv.st;show _=((s.stations.toNat:Nat):Int);omega
  have hn8:Lv.num s≤8:=hv.toSw.num8
  generalize Lv.num s=n at *
  simp only [go_sem,zJ,zAc,kvC,zB,zD,zC,reduceIte,reduceCtorEq,zA]
  refine zAu (fun m ts' S' => ∃ k V1 V2 nt tk Hh,k≤n∧m=n - k∧ts'=[(5,.ref 1 0),(7,V1),(8,V2),(20,.int .i64 s.stations),(21,.int .i64 k)]∧S'=⟨Hh,nt,tk⟩∧cellsAt Hh 1=some (kvC s (wS V))∧Own (ints ((List.range k).map (lowAt V n))) k V1 nt tk∧Own (ints ((List.range k).map (highAt V n))) k V2 nt tk∧Apart V1 V2) n ⟨0,.nilS,.nilS,0,[],_,qG _,rfl,rfl,rfl,rfl,Own.nil _ _,Own.nil _ _,apart_nil _⟩ ?_
  rintro m ts' S' ⟨k,V1,V2,nt,tk,Hh,hk,rfl,rfl,rfl,hc,o1,o2,ap⟩
  by_cases hlt:k<n
  ·have h1:(k:Int)<s.stations:=by omega
   have h4:IntKind.i64.wrap ((k:Int)+1)=(k+1:Nat):=wrap64 (by omega)
   have c1:=zAf Hh
   have c2:=fun x B=>zAs Hh x B
   have ca:=zAn hc
   simp only [go_sem,l26_0,h1,decide_true,hc,kvC,zB,zD,zC,reduceIte,reduceCtorEq,zA]
   refine qp n87 (base_pc s hst (by omega) hsq hlt) (SubL.refl _) ?_
   simp only [go_sem,zB,zD,zC,reduceIte,reduceCtorEq,zA]
   refine qp n85 (span_pc s hsq (baseG_lt V hlt) hlt) (SubL.refl _) ?_
   simp only [go_sem,spanA,c1,c2,zAd,AV.cells,AV.one,zL,zO,zJ,splice,zI,zH,zB,zD,zC,reduceIte,reduceCtorEq,zA]
   simp only [go_sem,zAa,zB,zD,zC,reduceIte,reduceCtorEq,zA]
   refine own_sq (lx:=[.int .i64 (IntKind.i64.wrap (0 - ent V k (baseG V n k)))]) rowInts o1 (by simp) rfl (by decide) rfl (by omega) fun V1' tk1 g1 => ?_
   obtain ⟨o2',ap'⟩:=g1.keep _ _ _ o2 ap
   simp only [go_sem,c1,zAa,zB,zD,zC,reduceIte,reduceCtorEq,zA]
   refine zEa (lx:=[.int .i64 (ent V (baseG V n k) k)]) rowInts o2' (by simp) rfl (by decide) rfl (by omega) fun V2' tk2 g2 => ?_
   obtain ⟨o1',ap''⟩:=g2.keep _ _ _ g1.own ap'.symm
   simp only [go_sem,h4,zB,zD,zC,reduceIte,reduceCtorEq,zA]
   refine zAj (n - (k+1)) (by omega) ⟨k+1,V1',V2',nt+1+1,tk2,_,hlt,rfl,rfl,rfl,ca _, ?_, ?_,ap''.symm⟩
   ·have:=o1'
    rw [show [AV.int .i64 (IntKind.i64.wrap (0 - ent V k (baseG V n k)))]=ints [lowAt V n k] from rfl,ints_app] at this
    rw [yN,qS]
    exact this
   ·have:=g2.own
    rw [show [AV.int .i64 (ent V (baseG V n k) k)]=ints [highAt V n k] from rfl,ints_app] at this
    rw [yN,qS]
    exact this
  ·have h1:¬ (k:Int)<s.stations:=by omega
   have e:k=n:=by omega
   subst e
   simp only [go_sem,l26_0,h1,decide_false,Tryz.f26,zB,zD,zC,reduceIte,reduceCtorEq,zA]
   refine ⟨_,rfl,frz_three ?_ ?_ (.same _)⟩
   ·simpa [sl] using o1.frz Hh
   ·simpa [sl] using o2.frz Hh
set_option maxHeartbeats 1000000
def bools (l:List Bool):List AV:=l.map .bool
abbrev bl (l:List Bool):AV:=.slice (bools l) l.length .unk
def mo (x:Int):Int:=if x<far then x else 0
def jo (x:Int):Bool:=decide (x<far)
def rM (V:Mat):Mat:=V.map (·.map mo)
def rJ (V:Mat):List (List Bool):=V.map (·.map jo)
abbrev rA (V:Mat):AV:=.agg [wS (rM V),.slice ((rJ V).map bl) (rJ V).length .unk]
theorem setH_at:∀ {h:List (Option Blk)} {i:Nat} {B:Blk},i<h.length→setH h i B=h.set i (some B)
 | [],i,B,h=>by simp at h
 | x :: h,0,B,_=>rfl
 | x :: h,i+1,B,hi=>by
  show x :: setH h i B=x :: h.set i (some B)
  rw [setH_at (by simpa using hi)]
end Go.Av.Lx
end
section
namespace Go.Lv
open Go.Fw Go.Wk
theorem walk_ends {cs cs':List Bd} (h:∀ c∈cs,∃ d∈cs',d.a=c.a∧d.b=c.b):∀ {l:List Bd} {i j:Nat},(∀ x∈l,x∈cs)→Pth id i l j → ∃ m:List Bd,(∀ x∈m,x∈cs')∧Pth id i m j
 | [],i,j,_,hp=>⟨[],fun x hx=>(by cases hx),hp⟩
 | c :: l,i,j,hin,hp=>by
  obtain ⟨e,hp⟩:=hp
  obtain ⟨d,d1,d2,d3⟩:=h c (hin c zP)
  obtain ⟨m,m1,m2⟩:=walk_ends h (fun x hx=>hin x (zR _ hx)) hp
  refine ⟨d :: m,fun x hx => ?_,⟨d2.trans e, ?_⟩⟩
  ·rcases List.mem_cons.1 hx with rfl | hx
   ·exact d1
   ·exact m1 x hx
  ·show Pth id d.b m j
   rw [d3];exact m2
variable {n:Nat} {cs cs':List Bd} {V V':Mat}
theorem Clos.join (h:Clos n cs V) (h':Clos n cs' V') (hl:∀ c∈cs,∃ d∈cs',d.a=c.a∧d.b=c.b) {i j:Nat} (hi:i<n) (hj:j<n) (hf:ent V i j<far):ent V' i j<far:=by
 obtain ⟨l,p1,p2,p3⟩:=h.real i j hi hj hf
 obtain ⟨m,m1,m2⟩:=walk_ends hl p1 p2
 exact (h'.walk m i j m1 hi m2).2.1
theorem Clos.same (h:Clos n cs V) (h':Clos n cs' V') (hl:∀ c,c∈cs↔c∈cs') {i j:Nat} (hi:i<n) (hj:j<n):(ent V i j<far↔ent V' i j<far)∧(ent V i j<far→ent V i j=ent V' i j):=by
 have a:=fun hf=>h.le h' (fun c hc=>(hl c).1 hc) hi hj hf
 have b:=fun hf=>h'.le h (fun c hc=>(hl c).2 hc) hi hj hf
 refine ⟨⟨fun hf=>(a hf).2,fun hf=>(b hf).2⟩,fun hf => ?_⟩
 have a1:=a hf
 have b1:=b a1.2
 omega
def sightZ:Sight:=⟨0,0,0,0⟩
def keepS (s:Survey) (w:List Int) (k:Nat):List Sight:=((List.range k).filter fun (i:Nat) => !w.contains (i:Int)).map fun i=>s.sights.getD i sightZ
def zAq (s:Survey) (w:List Int):Survey:={ s with sights:=keepS s w s.sights.length }
theorem keep_len (s:Survey) (w:List Int) (k:Nat):(keepS s w k).length≤k:=by
 unfold keepS;rw [List.length_map];exact Nat.le_trans (List.length_filter_le _ _) (by simp)
theorem keep_succ (s:Survey) (w:List Int) (k:Nat):keepS s w (k+1)=if w.contains (k:Int)=true then keepS s w k else keepS s w k ++ [s.sights.getD k sightZ]:=by
 unfold keepS
 rw [yN,List.filter_append,qS]
 cases h:w.contains (k:Int) with
 | true =>
  have e:[k].filter (fun (i:Nat) => !w.contains (i:Int))=[]:=by rw [List.filter_cons_of_neg (by rw [h];decide)];rfl
  rw [e,if_pos rfl];simp
 | false =>
  have e:[k].filter (fun (i:Nat) => !w.contains (i:Int))=[k]:=by rw [List.filter_cons_of_pos (by rw [h];decide)];rfl
  rw [e,if_neg (by decide)];rfl
theorem keep_mem {s:Survey} {w:List Int} {x:Sight}:x∈keepS s w s.sights.length ↔ ∃ (i:Nat),∃ (h:i<s.sights.length),(i:Int) ∉ w∧s.sights[i]=x:=by
 unfold keepS
 simp only [List.mem_map,List.mem_filter,List.mem_range,yE,List.contains_eq_mem,decide_eq_false_iff_not]
 constructor
 ·rintro ⟨i,⟨hi,hw⟩,rfl⟩
  refine ⟨i,hi,hw, ?_⟩
  rw [zG,zF hi];rfl
 ·rintro ⟨i,hi,hw,rfl⟩
  refine ⟨i,⟨hi,hw⟩, ?_⟩
  rw [zG,zF hi];rfl
theorem without_sub {s:Survey} {w:List Int}:∀ x∈(zAq s w).sights,x∈s.sights:=fun x hx=>by
 obtain ⟨i,hi,_,rfl⟩:=keep_mem.1 hx
 exact qB hi
theorem without_sw {s:Survey} (h:Sw s) (w:List Int):Sw (zAq s w):=⟨h.st,fun x hx=>h.sights x (without_sub x hx)⟩
theorem without_sv {s:Survey} (h:Sv s) (w:List Int):Sv (zAq s w):=⟨without_sw h.toSw w,Nat.le_trans (keep_len s w _) h.many⟩
theorem keep_nil (s:Survey):keepS s [] s.sights.length=s.sights:=by
 refine List.ext_getElem? fun i => ?_
 unfold keepS
 have e:((List.range s.sights.length).filter fun (i:Nat) => !([]:List Int).contains (i:Int))=List.range s.sights.length:=List.filter_eq_self.2 fun a _=>rfl
 rw [e,qK]
 by_cases hi:i<s.sights.length
 ·rw [qR hi,zX,zG,zF hi];rfl
 ·rw [zN (by simpa using hi),zN (by omega)];rfl
theorem without_nil (s:Survey):zAq s []=s:=by
 cases s;unfold zAq;rw [keep_nil]
theorem none_poss {s:Survey} (h:Sw s) (he:s.sights=[]):possS s=true:=(poss_fit h).2 ⟨fun _=>0,fun y hy=>by rw [he] at hy;cases hy⟩
def dropM (p:List Int→Bool) (below:Nat):Nat→List Int→Nat→Option (List Int)
 | 0,now,_=>if p now=true then some now else none
 | m+1,now,fr=>firstI (fun n=>dropM p below m (now ++ [(n:Int)]) (n+1)) fr (below - fr)
def searchM (p:List Int→Bool) (below:Nat):Nat→List Int→Nat→Option (List Int)
 | 0,now,_=>if p now=true then some now else none
 | m+1,now,fr=>firstI (fun n=>searchM p below m (now ++ [(n:Int)]) (n+1)) fr (below+1 - (fr+(m+1)))
theorem firstI_more {β:Type} {f:Nat→Option β} (s:Nat):∀ (r n:Nat),(∀ i,n+r≤i→i<n+r+s→f i=none)→firstI f n (r+s)=firstI f n r
 | 0,n,h=>by
  rw [Nat.zero_add]
  induction s generalizing n with
  | zero=>rfl
  | succ s ih =>
   unfold firstI
   rw [h n (by omega) (by omega)]
   exact ih (n+1) fun i h1 h2=>h i (by omega) (by omega)
 | r+1,n,h=>by
  rw [show r+1+s=(r+s)+1 by omega]
  unfold firstI
  cases f n with
  | some x=>rfl
  | none=>exact firstI_more s r (n+1) fun i h1 h2=>h i (by omega) (by omega)
theorem search_none {p:List Int→Bool} {below m:Nat} {now:List Int} {fr:Nat} (h:below<fr+m) (hm:0<m):searchM p below m now fr=none:=by
 cases m with
 | zero=>omega
 | succ m =>
  unfold searchM
  rw [show below+1 - (fr+(m+1))=0 by omega];rfl
theorem drop_search (p:List Int→Bool) (below:Nat):∀ (m:Nat) (now:List Int) (fr:Nat),dropM p below m now fr=searchM p below m now fr
 | 0,now,fr=>rfl
 | m+1,now,fr=>by
  unfold dropM searchM
  have e:(fun n:Nat=>dropM p below m (now ++ [(n:Int)]) (n+1))=fun n:Nat=>searchM p below m (now ++ [(n:Int)]) (n+1):=by
   funext n;exact drop_search p below m _ _
  rw [e]
  obtain ⟨s,hs⟩:∃ s,below - fr=(below+1 - (fr+(m+1)))+s:=⟨below - fr - (below+1 - (fr+(m+1))),by omega⟩
  rw [hs]
  refine firstI_more s _ _ fun i h1 h2 => ?_
  exact search_none (by omega) (by omega)
def LxI:List Int→List Int→Prop
 | a :: s,b :: t=>a<b∨(a=b∧LxI s t)
 | _,_=>False
def Rsn (below:Nat):Nat→List Int→Prop
 | _,[]=>True
 | fr,a :: s => ∃ n:Nat,a=n∧fr≤n∧n<below∧Rsn below (n+1) s
theorem drop_no (p:List Int→Bool) (below:Nat):∀ (m:Nat) (now:List Int) (fr:Nat),dropM p below m now fr=none → ∀ t,t.length=m→Rsn below fr t→p (now ++ t)=true→False
 | 0,now,fr,e,t,ht,hr,hp=>by
  have:t=[]:=List.length_eq_zero_iff.1 ht
  subst this
  rw [List.append_nil] at hp
  unfold dropM at e
  rw [if_pos hp] at e;cases e
 | m+1,now,fr,e,t,ht,hr,hp=>by
  cases t with
  | nil=>cases ht
  | cons a t =>
   obtain ⟨n,rfl,g1,g2,g3⟩:=hr
   have hnt:now ++ (n:Int) :: t=(now ++ [(n:Int)]) ++ t:=by simp
   rw [hnt] at hp
   unfold dropM at e
   exact drop_no p below m _ _ (zDh e n g1 (by omega)) t (by simpa using ht) g3 hp
theorem rsn_len {below:Nat}:∀ {fr:Nat} {t:List Int},Rsn below fr t→t.length+fr≤below∨t=[]
 | fr,[],_=>.inr rfl
 | fr,a :: t,h=>by
  obtain ⟨n,rfl,g1,g2,g3⟩:=h
  rcases rsn_len g3 with h' | rfl
  ·left;simp;omega
  ·left;simp;omega
theorem rsn_up {below:Nat}:∀ {fr:Nat} {t:List Int},Rsn below fr t↔(∀ x∈t,(fr:Int)≤x∧x<(below:Int))∧t.Pairwise (· < ·)
 | fr,[]=>by simp [Rsn]
 | fr,a :: t=>by
  rw [List.pairwise_cons]
  constructor
  ·rintro ⟨n,rfl,g1,g2,g3⟩
   obtain ⟨h1,h2⟩:=rsn_up.1 g3
   refine ⟨fun x hx => ?_,fun x hx => ?_,h2⟩
   ·rcases List.mem_cons.1 hx with rfl | hx
    ·omega
    ·have:=h1 x hx;omega
   ·have:=h1 x hx;omega
  ·rintro ⟨h1,h2,h3⟩
   have ha:=h1 a zP
   refine ⟨a.toNat,by omega,by omega,by omega,rsn_up.2 ⟨fun x hx => ?_,h3⟩⟩
   have:=h1 x (zR _ hx)
   have:=h2 x hx
   omega
def shortM (p:List Int→Bool) (below:Nat):Option (List Int):=firstI (fun many=>searchM p below many [] 0) 0 (below+1)
theorem short_none {p:List Int→Bool} {below:Nat} (h:shortM p below=none):∀ t,Rsn below 0 t→p t=true→False:=by
 intro t ht hpt
 unfold shortM at h
 have hl:t.length<0+(below+1):=by
  rcases rsn_len ht with h' | rfl
  ·omega
  ·simp
 have:=zDh h t.length (qG _) hl
 rw [← drop_search] at this
 exact drop_no p below _ _ _ this t rfl ht hpt
theorem rsn_all (below:Nat):Rsn below 0 ((List.range below).map fun (i:Nat)=>(i:Int)):=by
 refine rsn_up.2 ⟨fun x hx => ?_, ?_⟩
 ·obtain ⟨i,hi,rfl⟩:=List.mem_map.1 hx
  have:=List.mem_range.1 hi
  omega
 ·rw [List.pairwise_map]
  exact List.pairwise_lt_range.imp fun h=>by omega
def dropsS (s:Survey):List Int:=(shortM (fun w=>possS (zAq s w)) s.sights.length).getD []
theorem drops_is {s:Survey} (h:Sw s):shortM (fun w=>possS (zAq s w)) s.sights.length=some (dropsS s):=by
 cases hs:shortM (fun w=>possS (zAq s w)) s.sights.length with
 | some x=>unfold dropsS;rw [hs];rfl
 | none =>
  exfalso
  refine short_none hs _ (rsn_all _) (none_poss (without_sw h _) ?_)
  show keepS s _ _=[]
  refine List.eq_nil_iff_forall_not_mem.2 fun x hx => ?_
  obtain ⟨i,hi,hw,_⟩:=keep_mem.1 hx
  exact hw (List.mem_map.2 ⟨i,List.mem_range.2 hi,rfl⟩)
structure DropP (s:Survey) (l:List Int):Prop where
 own:possS (zAq s l)=true
 up:Rsn s.sights.length 0 l
 least:∀ t,Rsn s.sights.length 0 t→possS (zAq s t)=true→l.length≤t.length∧(t.length=l.length → ¬ LxI t l)
theorem DropP.len {s:Survey} {l:List Int} (h:DropP s l):l.length≤s.sights.length:=by
 rcases rsn_len h.up with g | rfl
 ·omega
 ·simp
theorem DropP.nil {s:Survey} {l:List Int} (h:DropP s l):possS s=true↔l=[]:=by
 constructor
 ·intro hp
  have:=(h.least [] trivial (by rw [without_nil];exact hp)).1
  exact List.length_eq_zero_iff.1 (by simpa using this)
 ·rintro rfl
  have:=h.own
  rwa [without_nil] at this
def blamesS (s:Survey):List Int:=((List.range s.sights.length).filter fun (i:Nat)=>possS (zAq s [(i:Int)])).map fun (i:Nat)=>(i:Int)
theorem blame_iff {s:Survey} {x:Int}:x∈blamesS s↔(0≤x∧x<s.sights.length)∧possS (zAq s [x])=true:=by
 unfold blamesS
 simp only [List.mem_map,List.mem_filter,List.mem_range]
 constructor
 ·rintro ⟨i,⟨h1,h2⟩,rfl⟩
  exact ⟨by omega,h2⟩
 ·rintro ⟨h1,h2⟩
  refine ⟨x.toNat,⟨by omega, ?_⟩,by omega⟩
  rw [show ((x.toNat:Nat):Int)=x by omega];exact h2
theorem DropP.one {s:Survey} {l:List Int} (h:DropP s l) (hl:l.length=1):blamesS s≠[]:=by
 match l,hl with
 | [x],_ =>
  have hx:=(rsn_up.1 h.up).1 x zP
  exact List.ne_nil_of_mem (blame_iff.2 ⟨by omega,h.own⟩)
structure Leg where
 frm:Int
 to:Int
 long:Int
 deriving DecidableEq
structure LegOk (n:Int) (x:Leg):Prop where
 frm:0≤x.frm∧x.frm<n
 to:0≤x.to∧x.to<n
 ne:x.frm≠x.to
 long:1≤x.long∧x.long≤100
structure RangeOk (lo hi:Int):Prop where
 l0:0≤lo
 mid:lo≤hi
 top:hi≤20
theorem leg_small {n lo hi:Int} {x:Leg} (hx:LegOk n x) (hr:RangeOk lo hi):(0≤x.long * lo∧x.long * lo≤2000)∧(0≤x.long * hi∧x.long * hi≤2000):=by
 have h1:=hx.long;have h2:=hr.l0;have h3:=hr.mid;have h4:=hr.top
 have a:=yI (a:=x.long) (b:=lo) (by omega) h2
 have b:=yI (a:=x.long) (b:=hi) (by omega) (by omega)
 have c:=Int.mul_le_mul (a:=x.long) (b:=lo) (c:=100) (d:=20) (by omega) (by omega) h2 (by omega)
 have d:=Int.mul_le_mul (a:=x.long) (b:=hi) (c:=100) (d:=20) (by omega) (by omega) (by omega) (by omega)
 omega
def fallW (V:Mat) (x:Leg) (lo hi:Int):Int:=
 if -ent V x.frm.toNat x.to.toNat ≥ x.long * lo∧ent V x.to.toNat x.frm.toNat≤x.long * hi then 3
 else if ent V x.to.toNat x.frm.toNat<x.long * lo ∨ -ent V x.frm.toNat x.to.toNat > x.long * hi then 1 else 2
def legP (lo hi:Int) (x:Leg):List Bd:=[⟨x.to.toNat,x.frm.toNat,x.long * hi⟩,⟨x.frm.toNat,x.to.toNat,-(x.long * lo)⟩]
def legsP (lo hi:Int) (l:List Leg):List Bd:=l.flatMap (legP lo hi)
def carryB (s:Survey) (l:List Leg) (lo hi:Int):Bool:=(clo (num s) (legsP lo hi l ++ surveyB s)).isSome
def carryW (s:Survey) (V:Mat) (l:List Leg) (lo hi:Int):Int:=if (l.all fun x=>decide (fallW V x lo hi=3))=true then 3 else if carryB s l lo hi=true then 2 else 1

def bestAt (f:Nat→Int):Nat→Nat
 | 0=>0
 | k+1=>if f (k+1)<f (bestAt f k) then k+1 else bestAt f k
theorem best_ok (f:Nat→Int):∀ k,bestAt f k≤k ∧ ∀ j,j≤k→f (bestAt f k)≤f j∧(j<bestAt f k→f (bestAt f k)<f j)
 | 0=>⟨zM _,fun j hj=>by
  have:j=0:=by omega
  subst this
  exact ⟨qZ _,fun h=>absurd h (Nat.lt_irrefl _)⟩⟩
 | k+1=>by
  obtain ⟨h1,h2⟩:=best_ok f k
  unfold bestAt
  split
  ·rename_i g
   refine ⟨zM _,fun j hj => ?_⟩
   by_cases e:j=k+1
   ·subst e;exact ⟨qZ _,fun h=>absurd h (Nat.lt_irrefl _)⟩
   ·have:=(h2 j (by omega)).1
    exact ⟨by omega,fun _=>by omega⟩
  ·rename_i g
   refine ⟨by omega,fun j hj => ?_⟩
   by_cases e:j=k+1
   ·subst e;exact ⟨by omega,fun h=>by omega⟩
   ·exact h2 j (by omega)
structure Tun where
 frm:Int
 to:Int
 long:Int
 fall:Int
 err:Int
 deriving DecidableEq
structure TunOk (n:Int) (x:Tun):Prop where
 frm:0≤x.frm∧x.frm<n
 to:0≤x.to∧x.to<n
 ne:x.frm≠x.to
 long:1≤x.long∧x.long≤100
 fall:0≤x.fall∧x.fall≤20
 err:0≤x.err∧x.err≤5
theorem mul_small {a b A B:Int} (ha:0≤a∧a≤A) (hb:0≤b∧b≤B):0≤a * b∧a * b≤A * B:=
 ⟨yI ha.1 hb.1,Int.mul_le_mul ha.2 hb.2 hb.1 (by omega)⟩
theorem TunOk.fall' {n:Int} {x:Tun} (h:TunOk n x):0≤x.long * x.fall∧x.long * x.fall≤2000:=by
 have:=mul_small (A:=100) (B:=20) ⟨by have:=h.long;omega,h.long.2⟩ h.fall;omega
theorem TunOk.err' {n:Int} {x:Tun} (h:TunOk n x):0≤x.long * x.err∧x.long * x.err≤500:=by
 have:=mul_small (A:=100) (B:=5) ⟨by have:=h.long;omega,h.long.2⟩ h.err;omega
def meetL (V:Mat) (x:Tun):Int:=-ent V x.frm.toNat x.to.toNat - x.long * x.fall - x.long * x.err
def meetH (V:Mat) (x:Tun):Int:=ent V x.to.toNat x.frm.toNat - x.long * x.fall+x.long * x.err
def wideI (lo hi:Int):Int:=max (max lo (-lo)) (max hi (-hi))
def withFall (x:Tun) (n:Int):Tun:={ x with fall:=n }
def driveF (V:Mat) (x:Tun) (n:Nat):Int:=wideI (meetL V (withFall x n)) (meetH V (withFall x n))
theorem heads {s:Survey} (h:Sw s) {V:Mat} (hV:knownV s=some V) {x:Tun} (hx:TunOk s.stations x) (hj:ent V x.frm.toNat x.to.toNat<far) {hs:Nat→Int} (hf:Fit s hs) {at' one other:Int}
  (h1:-x.err * at'≤one∧one≤x.err * at') (h2:-x.err * (x.long - at')≤other∧other≤x.err * (x.long - at')) :
  meetL V x≤(hs x.frm.toNat - x.fall * at'+one) - (hs x.to.toNat+x.fall * (x.long - at')+other)∧(hs x.frm.toNat - x.fall * at'+one) - (hs x.to.toNat+x.fall * (x.long - at')+other)≤meetH V x:=by
 have a1:=hx.frm;have a2:=hx.to
 have b:=fit_most h hV hf (i:=x.frm.toNat) (j:=x.to.toNat) (by show x.frm.toNat<s.stations.toNat;omega) (by show x.to.toNat<s.stations.toNat;omega) hj
 have c:=fit_most h hV hf (i:=x.to.toNat) (j:=x.frm.toNat) (by show x.to.toNat<s.stations.toNat;omega) (by show x.frm.toNat<s.stations.toNat;omega) (known_sym h hV (by show x.frm.toNat<s.stations.toNat;omega) (by show x.to.toNat<s.stations.toNat;omega) hj)
 unfold meetL meetH
 rw [Int.neg_mul] at h1 h2
 rw [Int.mul_sub,Int.mul_comm x.err x.long] at h2
 rw [Int.mul_sub,Int.mul_comm x.fall x.long]
 omega
theorem meet_le {s:Survey} (h:Sw s) {V:Mat} (hV:knownV s=some V) {x:Tun} (hx:TunOk s.stations x) (hj:ent V x.frm.toNat x.to.toNat<far):-20000≤meetL V x∧meetL V x≤meetH V x∧meetH V x≤20000:=by
 have a1:=hx.frm;have a2:=hx.to
 have i1:x.frm.toNat<num s:=by show x.frm.toNat<s.stations.toNat;omega
 have i2:x.to.toNat<num s:=by show x.to.toNat<s.stations.toNat;omega
 have sy:=known_sym h hV i1 i2 hj
 have b:=known_bd h hV i1 i2 hj
 have c:=known_bd h hV i2 i1 sy
 have d:=(zBv h hV).neg i1 i2 hj sy
 have e:=hx.fall'
 have f:=hx.err'
 unfold meetL meetH
 omega
def risAt (n:Nat) (x:List Int) (i:Nat):Bool:=decide (0≤x.getD i 0) && decide (x.getD i 0<n) && (decide (i=0) || decide (x.getD (i - 1) 0<x.getD i 0))
def risB (n:Nat) (x:List Int):Bool:=(List.range x.length).all (risAt n x)
def lexI:List Int→List Int→Bool
 | x :: a,y :: b=>if x=y then lexI a b else decide (x<y)
 | _,_=>false
theorem lexI_drop:∀ (a b:List Int) (k:Nat),a.length=b.length→(∀ i (h1:i<k) (h2:i<a.length) (h3:i<b.length),a[i]=b[i])→lexI a b=lexI (a.drop k) (b.drop k)
 | a,b,0,_,_=>rfl
 | [],[],k+1,_,_=>rfl
 | x :: a,y :: b,k+1,hl,h=>by
  have h0:=h 0 (by omega) (by simp) (by simp)
  simp only [List.getElem_cons_zero] at h0
  subst h0
  simp only [lexI,if_true,List.drop_succ_cons]
  exact lexI_drop a b k (by simpa using hl) fun i h1 h2 h3=>by
   have:=h (i+1) (by omega) (by simpa using h2) (by simpa using h3)
   simpa using this
def stpLt (x y:Stp):Bool:=decide (x.sight<y.sight) || (decide (x.sight=y.sight) && !x.back)
def befS:List Stp→List Stp→Bool
 | x :: a,y :: b=>if x=y then befS a b else stpLt x y
 | _,_=>false
theorem befS_drop:∀ (a b:List Stp) (k:Nat),a.length=b.length→(∀ i (h1:i<k) (h2:i<a.length) (h3:i<b.length),a[i]=b[i])→befS a b=befS (a.drop k) (b.drop k)
 | a,b,0,_,_=>rfl
 | [],[],k+1,_,_=>rfl
 | x :: a,y :: b,k+1,hl,h=>by
  have h0:=h 0 (by omega) (by simp) (by simp)
  simp only [List.getElem_cons_zero] at h0
  subst h0
  simp only [befS,if_true,List.drop_succ_cons]
  exact befS_drop a b k (by simpa using hl) fun i h1 h2 h3=>by
   have:=h (i+1) (by omega) (by simpa using h2) (by simpa using h3)
   simpa using this
end Go.Lv
end
