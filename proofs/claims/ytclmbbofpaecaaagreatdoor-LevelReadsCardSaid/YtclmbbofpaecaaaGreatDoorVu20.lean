/- Part 20 of the proof. -/
import Derived.Test.YtclmbbofpaecaaaGreatDoorVu19
import Derived.Test.YtclmbbofpaecaaaGreatDoorVu17
import Derived.Test.YtclmbbofpaecaaaGreatDoorVu3
set_option linter.all false
set_option linter.unusedVariables false
set_option linter.unusedSimpArgs false
set_option linter.unusedSectionVars false
open Bool renaming and_self → zJ, and_eq_true → zR, false_eq_true → zU, not_true → zX, not_false → qF, true_and → qU, false_and → qW
open Int renaming toNat_natCast → qQ
open List renaming set_cons_succ → zG, set_cons_zero → zH, all_cons → zK, all_nil → zM, mem_cons_self → zO, mem_cons_of_mem → zQ, length_cons → zT, length_append → qE, map_append → qP, all_eq_true → qX, flatMap_cons → yD, range_succ → yI
open Nat renaming reduceLeDiff → zA, reduceEqDiff → zB, reduceAdd → zC, reduceBEq → zD, le_of_ble_eq_true → zE, zero_le → qI, not_lt_zero → yC
section
set_option maxHeartbeats 1000000
namespace Go.Av.Lx
open Go Go.Av Go.Av.Tb Go.Av.Fx Go.Proofs
open Go.Lv (Sight Survey Sw Sv SightOk)
open Go.Fw (Sq ent Bd Mat)
abbrev kA (s:Survey) (V:Mat):AV:=.agg (kvC s (wS V))
abbrev zeroK:AV:=.agg [.int .i64 0,.nilS,.nilS]
@[go_sem] theorem bd132z:buildA T 132 []=some (.agg [.int .i64 0,.nilS,.nilS]):=rfl
def askedA (s:Survey) (fine:Bool):AV:=
 if zAp s && fine then (match Lv.knownV s with
  | some V=>.tuple [kA s V,.int .i64 0]
  | none=>.tuple [zeroK,.int .i64 7])
 else .tuple [zeroK,.int .i64 2]
theorem askedA_bnd (s:Survey) (fine:Bool):(askedA s fine).bnd 0 0=true:=by
 unfold askedA
 split
 ·split <;> simp [AV.bnd,bndL]
 ·rfl
theorem asked1_ac (s:Survey) (h:Sw s) (hl:s.sights.length≤100) (H:List (Option Blk)) (i j:Nat) (hi:cellsAt H i=some (surC s)) (hj:cellsAt H j=some [.int .i64 0,.nilS,.nilS]) (N:Nat) (toks:List Nat) :
  AC Tryz.prog 144 [.ref i 0,.ref j 0] ⟨H,N,toks⟩ fun e S' =>
   (Lv.knownV s=none ∧ ∃ (a:Int) (A:List (Option Blk)) (nt:Nat) (tk:List Nat),e=.panic (.iface 191 (.agg [.int .i64 a]))∧S'=⟨H ++ A,nt,tk⟩∧N≤nt) ∨
   (∃ V,Lv.knownV s=some V ∧ ∃ (A C:List (Option Blk)) (t:Tail) (nt:Nat) (tk:List Nat),e=.ret (.tuple [])∧S'=⟨setH (H ++ (A ++ (heapR V ++ C))) j (.cells (kvC s (.slice (rowsO (H.length+3) (Lv.num s) (Lv.num s)) (Lv.num s) t))),nt,tk⟩∧A.length=3∧N≤nt):=by
 refine AC.run (Es_ok _ _) mix Tryz.func144 m144 rfl rfl rfl (zE rfl) ?_
 simp only [go_sem,hi,hj,zB,zD,zC,reduceIte,reduceCtorEq,zA]
 refine zCe (E:=Es _ _) n94 (known_ac s h hl [] (by simp) (fun x hx=>by cases hx) .nilS H N toks (.inl ⟨rfl,rfl⟩)) (fun v S' hR => ?_) (fun v S' hR => ?_)
 ·rcases hR with ⟨_,_,_,_,_,e,_⟩ | ⟨V,hV,A,C,t,nt,tk,e,rfl,h3,hnt⟩
  ·cases e
  ·cases e
   have hc:=zAn hj (A ++ (heapR V ++ C))
   simp only [go_sem,hc,zAd,AV.cells,AV.one,zK,zM,zJ,splice,zH,zG,Tryz.f144,zB,zD,zC,reduceIte,reduceCtorEq,zA]
   exact .inr ⟨V,hV,A,C,t,nt,tk,rfl,rfl,h3,hnt⟩
 ·rcases hR with ⟨h0,a,A,nt,tk,e,rfl,hnt⟩ | ⟨V,hV,A,C,t,nt,tk,e,rfl,h3,hnt⟩
  ·cases e
   exact .inl ⟨h0,a,A,nt,tk,rfl,rfl,hnt⟩
  ·cases e
theorem kv_frz {s:Survey} {V:Mat} {A C:List (Option Blk)} {n:Nat} (h:Sq n V) {off:Nat} (ho:A.length=off) (t:Tail):Frz (A ++ (heapR V ++ C)) (.agg (kvC s (.slice (rowsO off n n) n t))) (kA s V):=by
 refine .agg _ _ rfl fun j x y hx hy => ?_
 match j,hx,hy with
 | 0,hx,hy=>simp [kvC] at hx hy;subst hx;subst hy;exact .same _
 | 1,hx,hy=>simp [kvC] at hx hy;subst hx;subst hy;exact .same _
 | 2,hx,hy =>
  simp [kvC] at hx hy;subst hx;subst hy
  exact grid_frz h ho t
 | j+3,hx,hy=>simp [kvC] at hx
theorem zCg (s:Survey) (hl:okL s.sights.length) (fine:Bool):PC Tryz.prog 86 [surA s,.bool fine] (.pure (askedA s fine)):=by
 refine PC.of_frz (AC.run (E_ok _) mix Tryz.func86 m86 rfl rfl rfl (zE rfl) ?_) (by simp [bndL,AV.bnd]) (askedA_bnd _ _)
 unfold askedA
 simp only [go_sem,boxA,zB,zD,zC,reduceIte,reduceCtorEq,zA]
 refine cp n89 (zBp s hl) (SubL.refl _) ?_
 cases h:zAp s
 ·simp only [go_sem,zAi,qF,Tryz.f86,qW,zB,zD,zC,reduceIte,reduceCtorEq,zA]
  exact ⟨_,rfl,.same _⟩
 cases fine
 ·simp only [go_sem,zAi,qF,zX,Tryz.f86,Bool.and_false,zB,zD,zC,reduceIte,reduceCtorEq,zA]
  exact ⟨_,rfl,.same _⟩
 have hv:=zDp.1 h
 simp only [go_sem,zAi,zX,zJ,zB,zD,zC,reduceIte,reduceCtorEq,zA]
 refine cac (R:=fun e S'=>(Lv.knownV s=none∧e=.ret (.int .i64 7) ∧ ∃ (X:List (Option Blk)) (nt:Nat) (tk:List Nat),S'=⟨[some (.cells (surC s)),some (.cells [.int .i64 0,.nilS,.nilS]),some (.cells [.int .i64 0,.nilS,.nilS])] ++ X,nt,tk⟩) ∨
   (∃ V,Lv.knownV s=some V∧e=.ret (.int .i64 0) ∧ ∃ (A C:List (Option Blk)) (t:Tail) (nt:Nat) (tk:List Nat),S'=⟨some (.cells (surC s)) :: some (.cells [.int .i64 0,.nilS,.nilS]) :: some (.cells (kvC s (.slice (rowsO 7 (Lv.num s) (Lv.num s)) (Lv.num s) t))) :: some (.cells [.int .i64 0]) :: (A ++ (heapR V ++ C)),nt,tk⟩∧A.length=3)) n92 (try_ac (S:=⟨[some (.cells (surC s)),some (.cells [.int .i64 0,.nilS,.nilS]),some (.cells [.int .i64 0,.nilS,.nilS])],0,[]⟩) n144 (asked1_ac s hv.toSw (by have:=hv.many;omega) _ 0 2 rfl rfl 0 []) ?_ ?_) ?_ ?_
 ·rintro v S' (⟨_,_,_,_,_,e,_⟩ | ⟨V,hV,A,C,t,nt,tk,e,rfl,h3,hnt⟩)
  ·cases e
  ·cases e
   exact ⟨rfl,.inr ⟨V,hV,rfl,A,C,t,nt,tk,rfl,h3⟩⟩
 ·rintro v S' (⟨h0,a,A,nt,tk,e,rfl,hnt⟩ | ⟨V,hV,A,C,t,nt,tk,e,rfl,h3,hnt⟩)
  ·cases e
   exact ⟨rfl,.inl ⟨a,rfl,.inl ⟨h0,rfl,some (.cells [.int .i64 7]) :: (A ++ [some (.cells [.int .i64 a])]),nt,tk,rfl⟩⟩⟩
  ·cases e
 ·rintro v S' (⟨h0,e,X,nt,tk,rfl⟩ | ⟨V,hV,e,A,C,t,nt,tk,rfl,h3⟩)
  ·cases e
   rw [h0]
   simp only [go_sem,Tryz.f86,zB,zD,zC,reduceIte,reduceCtorEq,zA]
   exact ⟨_,rfl,.same _⟩
  ·cases e
   rw [hV]
   have hsq:Sq (Lv.num s) V:=zBl (ds:=[]) hV
   simp only [go_sem,Tryz.f86,zB,zD,zC,reduceIte,reduceCtorEq,zA]
   refine ⟨_,rfl,Frz.two ?_ (.same _)⟩
   exact kv_frz (A:=some (.cells (surC s)) :: some (.cells (kvC s (.slice (rowsO 7 (Lv.num s) (Lv.num s)) (Lv.num s) t))) :: some (.cells (kvC s (.slice (rowsO 7 (Lv.num s) (Lv.num s)) (Lv.num s) t))) :: some (.cells [.int .i64 0]) :: A) hsq (by simp [h3]) t
 ·rintro v S' (⟨h0,e,X,nt,tk,rfl⟩ | ⟨V,hV,e,A,C,t,nt,tk,rfl,h3⟩)
  ·cases e
  ·cases e
theorem joined_pc (s:Survey) {V:Mat} {n:Nat} (h:Sq n V) {i j:Nat} (hi:i<n) (hj:j<n):PC Tryz.prog 105 [kA s V,.int .i64 i,.int .i64 j] (.pure (.bool (decide (ent V i j<far)))):=by
 refine PC.of_empty (AC.run (E_ok _) mix Tryz.func105 m105 rfl rfl rfl (zE rfl) ?_) (by simp [bndL,AV.bnd]) rfl
 have ga:=zDo h hi
 have gl:=h.getD hi
 have e:=zBf h hi hj
 have xa:0≤(i:Int)∧(i:Int)<(V.length:Int):=by have:=h.1;omega
 have xb:0≤(j:Int)∧(j:Int)<(n:Int):=by omega
 simp only [go_sem,boxA,xa,xb,ga,gl,e,zAg,and_self,Tryz.f105,zB,zD,zC,reduceIte,reduceCtorEq,zA]
 rfl
theorem greatest_pc (s:Survey) {V:Mat} {n:Nat} (h:Sq n V) {i j:Nat} (hi:i<n) (hj:j<n):PC Tryz.prog 143 [kA s V,.int .i64 i,.int .i64 j] (.pure (.int .i64 (ent V i j))):=by
 refine PC.of_empty (AC.run (E_ok _) mix Tryz.func143 m143 rfl rfl rfl (zE rfl) ?_) (by simp [bndL,AV.bnd]) rfl
 have ga:=zDo h hi
 have gl:=h.getD hi
 have e:=zBf h hi hj
 have xa:0≤(i:Int)∧(i:Int)<(V.length:Int):=by have:=h.1;omega
 have xb:0≤(j:Int)∧(j:Int)<(n:Int):=by omega
 simp only [go_sem,boxA,xa,xb,ga,gl,e,zAg,and_self,Tryz.f143,zB,zD,zC,reduceIte,reduceCtorEq,zA]
theorem least_pc (s:Survey) {V:Mat} {n:Nat} (h:Sq n V) {i j:Nat} (hi:i<n) (hj:j<n):PC Tryz.prog 95 [kA s V,.int .i64 i,.int .i64 j] (.pure (.int .i64 (IntKind.i64.wrap (0 - ent V j i)))):=by
 refine PC.of_empty (AC.run (E_ok _) mix Tryz.func95 m95 rfl rfl rfl (zE rfl) ?_) (by simp [bndL,AV.bnd]) rfl
 have ga:=zDo h hj
 have gl:=h.getD hj
 have e:=zBf h hj hi
 have xa:0≤(j:Int)∧(j:Int)<(V.length:Int):=by have:=h.1;omega
 have xb:0≤(i:Int)∧(i:Int)<(n:Int):=by omega
 simp only [go_sem,boxA,xa,xb,ga,gl,e,zAg,and_self,unA,Tryz.f95,zB,zD,zC,reduceIte,reduceCtorEq,zA]
def spanA (V:Mat) (i j:Nat):AV:=.agg [.int .i64 (IntKind.i64.wrap (0 - ent V j i)),.int .i64 (ent V i j)]
theorem span_pc (s:Survey) {V:Mat} {n:Nat} (h:Sq n V) {i j:Nat} (hi:i<n) (hj:j<n):PC Tryz.prog 85 [kA s V,.int .i64 i,.int .i64 j] (.pure (spanA V i j)):=by
 refine PC.of_empty (AC.run (E_ok _) mix Tryz.func85 m85 rfl rfl rfl (zE rfl) ?_) (by simp [bndL,AV.bnd]) rfl
 have hz:buildA T 187 [(0,.func (.func 95) [] []),(1,.func (.func 143) [] [])]=some (.agg [.func (.func 95) [] [],.func (.func 143) [] []]):=rfl
 have x0:indexA T 187 (.agg [.func (.func 95) [] [],.func (.func 143) [] []]) (.int .i64 ((0:Nat):Int))=some (.func (.func 95) [] []):=rfl
 have x1:indexA T 187 (.agg [.func (.func 95) [] [],.func (.func 143) [] []]) (.int .i64 ((1:Nat):Int))=some (.func (.func 143) [] []):=rfl
 simp only [go_sem,boxA,hz,zB,zD,zC,reduceIte,reduceCtorEq,zA]
 refine zEc 2 (fun k=>[(1,.int .i64 i),(2,.int .i64 j),(3,.ref 0 0),(6,.ref 1 0),(7,.ref 2 0),(10,.agg [.func (.func 95) [] [],.func (.func 143) [] []]),(11,.int .i64 k)])
  (fun k=>⟨[some (.cells [.int .i64 s.stations,.slice (sgts s.sights) s.sights.length .unk,wS V]),some (.cells [.int .i64 0,.int .i64 0]),some (.cells (match k with | 0=>[.int .i64 0,.int .i64 0] | 1=>[.int .i64 (IntKind.i64.wrap (0 - ent V j i)),.int .i64 0] | _=>[.int .i64 (IntKind.i64.wrap (0 - ent V j i)),.int .i64 (ent V i j)]))],0,[]⟩) rfl rfl ?_
 intro k hk I hI
 match k,hk,hI with
 | 0,_,hI =>
  have h1:(((0:Nat):Int)<2):=by decide
  have h2:(0:Int)≤((0:Nat):Int)∧((0:Nat):Int)<((2:Nat):Int):=by decide
  have h3:IntKind.i64.wrap (((0:Nat):Int)+1)=(1:Nat):=by decide
  have hI:=hI (by decide)
  simp only [go_sem,l85_0,h1,decide_true,zB,zD,zC,reduceIte,reduceCtorEq,zA]
  simp only [go_sem,x0,x1,zB,zD,zC,reduceIte,reduceCtorEq,zA]
  refine cp n95 (least_pc s h hi hj) (SubL.refl _) ?_
  simp only [go_sem,h2,h3,zAg,and_self,zAd,AV.cells,AV.one,zK,zM,zJ,splice,zH,zG,zB,zD,zC,reduceIte,reduceCtorEq,zA]
  exact hI
 | 1,_,hI =>
  have h1:(((1:Nat):Int)<2):=by decide
  have h2:(0:Int)≤((1:Nat):Int)∧((1:Nat):Int)<((2:Nat):Int):=by decide
  have h3:IntKind.i64.wrap (((1:Nat):Int)+1)=(2:Nat):=by decide
  have hI:=hI (by decide)
  simp only [go_sem,l85_0,h1,decide_true,zB,zD,zC,reduceIte,reduceCtorEq,zA]
  simp only [go_sem,x0,x1,zB,zD,zC,reduceIte,reduceCtorEq,zA]
  refine cp n143 (greatest_pc s h hi hj) (SubL.refl _) ?_
  simp only [go_sem,h2,h3,zAg,and_self,zAd,AV.cells,AV.one,zK,zM,zJ,splice,zH,zG,zB,zD,zC,reduceIte,reduceCtorEq,zA]
  exact hI
 | 2,_,hI =>
  have h1:¬ (((2:Nat):Int)<2):=by decide
  have q0:(0:Int)≤0∧(0:Int)<((2:Nat):Int):=by decide
  have q1:(0:Int)≤1∧(1:Int)<((2:Nat):Int):=by decide
  have z0:Int.toNat 0=0:=rfl
  have z1:Int.toNat 1=1:=rfl
  simp only [go_sem,l85_0,h1,decide_false,q0,q1,z0,z1,Tryz.f85,zB,zD,zC,reduceIte,reduceCtorEq,zA]
  rfl
 | k+3,hk,_=>omega
set_option maxHeartbeats 1000000
def zCq (s:Survey) (i j:Int) (fine:Bool):AV:=
 if zAp s && (fine && (staB s i && staB s j)) then (match Lv.knownV s with
  | some V=>if ent V i.toNat j.toNat<far then .tuple [kA s V,.int .i64 0] else .tuple [zeroK,.int .i64 5]
  | none=>.tuple [zeroK,.int .i64 7])
 else .tuple [zeroK,.int .i64 2]
theorem betweenA_bnd (s:Survey) (i j:Int) (fine:Bool):(zCq s i j fine).bnd 0 0=true:=by
 unfold zCq
 split
 ·split
  ·split <;> simp [AV.bnd,bndL]
  ·rfl
 ·rfl
theorem zCj (s:Survey) (hl:okL s.sights.length) (i j:Int) (fine:Bool):PC Tryz.prog 84 [surA s,.int .i64 i,.int .i64 j,.bool fine] (.pure (zCq s i j fine)):=by
 refine PC.of_empty (AC.run (E_ok _) mix Tryz.func84 m84 rfl rfl rfl (zE rfl) ?_) (by simp [bndL,AV.bnd]) (betweenA_bnd _ _ _ _)
 unfold zCq
 have hno:∀ b,b=false→askedA s b=.tuple [zeroK,.int .i64 2]:=fun b e=>by subst e;unfold askedA;rw [Bool.and_false];rfl
 simp only [go_sem,boxA,zB,zD,zC,reduceIte,reduceCtorEq,zA]
 cases fine
 ·simp only [go_sem,qW,Bool.and_false,zB,zD,zC,reduceIte,reduceCtorEq,zA]
  refine qp n86 (zCg s hl false) (SubL.refl _) ?_
  rw [hno false rfl]
  simp only [go_sem,zAc,Tryz.f84,zB,zD,zC,reduceIte,reduceCtorEq,zA]
  simp
 simp only [go_sem,qU,zB,zD,zC,reduceIte,reduceCtorEq,zA]
 refine qp n142 (zCp s i) (SubL.refl _) ?_
 cases hi:staB s i
 ·simp only [go_sem,qW,Bool.and_false,zB,zD,zC,reduceIte,reduceCtorEq,zA]
  refine qp n86 (zCg s hl false) (SubL.refl _) ?_
  rw [hno false rfl]
  simp only [go_sem,zAc,Tryz.f84,zB,zD,zC,reduceIte,reduceCtorEq,zA]
  simp
 simp only [go_sem,qU,zB,zD,zC,reduceIte,reduceCtorEq,zA]
 refine qp n142 (zCp s j) (SubL.refl _) ?_
 cases hj:staB s j
 ·simp only [go_sem,Bool.and_false,zB,zD,zC,reduceIte,reduceCtorEq,zA]
  refine qp n86 (zCg s hl false) (SubL.refl _) ?_
  rw [hno false rfl]
  simp only [go_sem,zAc,Tryz.f84,zB,zD,zC,reduceIte,reduceCtorEq,zA]
  simp
 simp only [go_sem,Bool.and_true,zB,zD,zC,reduceIte,reduceCtorEq,zA]
 refine qp n86 (zCg s hl true) (SubL.refl _) ?_
 unfold askedA
 cases hs:zAp s
 ·simp only [go_sem,qW,zAc,Tryz.f84,zB,zD,zC,reduceIte,reduceCtorEq,zA]
 have hv:=zDp.1 hs
 cases hV:Lv.knownV s with
 | none=>simp only [go_sem,zJ,zAc,Tryz.f84,zB,zD,zC,reduceIte,reduceCtorEq,zA]
 | some V =>
  obtain ⟨a,rfl⟩:∃ a:Nat,i=a:=⟨i.toNat,by have:=(zBu hv.st).1 hi;omega⟩
  obtain ⟨b,rfl⟩:∃ b:Nat,j=b:=⟨j.toNat,by have:=(zBu hv.st).1 hj;omega⟩
  have ha:a<Lv.num s:=by have:=(zBu hv.st).1 hi;show a<s.stations.toNat;omega
  have hb:b<Lv.num s:=by have:=(zBu hv.st).1 hj;show b<s.stations.toNat;omega
  simp only [go_sem,zJ,zAc,kvC,zB,zD,zC,reduceIte,reduceCtorEq,zA]
  refine cp n105 (joined_pc s (zBl (ds:=[]) hV) ha hb) (SubL.refl _) ?_
  try simp only [qQ]
  by_cases hf:ent V a b<far
  ·rw [if_pos hf]
   simp only [go_sem,hf,decide_true,zAi,zX,Tryz.f84,zB,zD,zC,reduceIte,reduceCtorEq,zA]
  ·rw [if_neg hf]
   simp only [go_sem,hf,decide_false,zAi,qF,Tryz.f84,zB,zD,zC,reduceIte,reduceCtorEq,zA]
@[go_sem] theorem bd28z:buildA T 28 []=some (.agg [.int .i64 0,.int .i64 0]):=rfl
def boundsA (s:Survey) (i j:Int):AV:=
 if zAp s && (staB s i && staB s j) then (match Lv.knownV s with
  | some V=>if ent V i.toNat j.toNat<far then .tuple [spanA V i.toNat j.toNat,.int .i64 0] else .tuple [.agg [.int .i64 0,.int .i64 0],.int .i64 5]
  | none=>.tuple [.agg [.int .i64 0,.int .i64 0],.int .i64 7])
 else .tuple [.agg [.int .i64 0,.int .i64 0],.int .i64 2]
theorem boundsA_bnd (s:Survey) (i j:Int):(boundsA s i j).bnd 0 0=true:=by
 unfold boundsA
 split
 ·split
  ·split <;> rfl
  ·rfl
 ·rfl
theorem Bounds_pc (s:Survey) (hl:okL s.sights.length) (i j:Int):PC Tryz.prog 25 [surA s,.int .i64 i,.int .i64 j] (.pure (boundsA s i j)):=by
 refine PC.of_empty (AC.run (E_ok _) mix Tryz.func25 m25 rfl rfl rfl (zE rfl) ?_) (by simp [bndL,AV.bnd]) (boundsA_bnd _ _ _)
 unfold boundsA
 simp only [go_sem,boxA,zB,zD,zC,reduceIte,reduceCtorEq,zA]
 refine cp n84 (zCj s hl i j true) (SubL.refl _) ?_
 unfold zCq
 cases hs:zAp s
 ·simp only [go_sem,qW,zAc,Tryz.f25,zB,zD,zC,reduceIte,reduceCtorEq,zA]
 cases hi:staB s i
 ·simp only [go_sem,qW,Bool.and_false,zAc,Tryz.f25,zB,zD,zC,reduceIte,reduceCtorEq,zA]
 cases hj:staB s j
 ·simp only [go_sem,Bool.and_false,zAc,Tryz.f25,zB,zD,zC,reduceIte,reduceCtorEq,zA]
 have hv:=zDp.1 hs
 cases hV:Lv.knownV s with
 | none=>simp only [go_sem,zJ,zAc,Tryz.f25,zB,zD,zC,reduceIte,reduceCtorEq,zA]
 | some V =>
  obtain ⟨a,rfl⟩:∃ a:Nat,i=a:=⟨i.toNat,by have:=(zBu hv.st).1 hi;omega⟩
  obtain ⟨b,rfl⟩:∃ b:Nat,j=b:=⟨j.toNat,by have:=(zBu hv.st).1 hj;omega⟩
  have ha:a<Lv.num s:=by have:=(zBu hv.st).1 hi;show a<s.stations.toNat;omega
  have hb:b<Lv.num s:=by have:=(zBu hv.st).1 hj;show b<s.stations.toNat;omega
  try simp only [qQ]
  by_cases hf:ent V a b<far
  ·rw [if_pos hf,if_pos hf]
   simp only [go_sem,zJ,zAc,kvC,zB,zD,zC,reduceIte,reduceCtorEq,zA]
   refine cp n85 (span_pc s (zBl (ds:=[]) hV) ha hb) (SubL.refl _) ?_
   simp only [go_sem,spanA,Tryz.f25,zB,zD,zC,reduceIte,reduceCtorEq,zA]
  ·rw [if_neg hf,if_neg hf]
   simp only [go_sem,zJ,zAc,Tryz.f25,zB,zD,zC,reduceIte,reduceCtorEq,zA]
def baseG (V:Mat) (n j:Nat):Nat:=((List.range n).find? fun b=>decide (ent V b j<far)).getD j
theorem base_pc (s:Survey) {V:Mat} {n:Nat} (hst:s.stations=(n:Int)) (hn:n≤1000) (h:Sq n V) {j:Nat} (hj:j<n):PC Tryz.prog 87 [kA s V,.int .i64 j] (.pure (.int .i64 (baseG V n j))):=by
 refine PC.of_empty (AC.run (E_ok _) mix Tryz.func87 m87 rfl rfl rfl (zE rfl) ?_) (by simp [bndL,AV.bnd]) rfl
 simp only [go_sem,boxA,zB,zD,zC,reduceIte,reduceCtorEq,zA]
 refine zBj n (fun k => ∀ b,b<k → ¬ ent V b j<far) (fun k=>[(1,.int .i64 j),(2,.ref 0 0),(8,.int .i64 s.stations),(9,.int .i64 k)]) (fun k=>⟨[some (.cells [.int .i64 s.stations,.slice (sgts s.sights) s.sights.length .unk,wS V])],0,[]⟩) (fun b hb=>absurd hb (yC _)) rfl rfl ?_
 intro k hk hP I hI
 by_cases hlt:k<n
 ·have h1:(k:Int)<s.stations:=by omega
  have h4:IntKind.i64.wrap ((k:Int)+1)=(k+1:Nat):=wrap64 (by omega)
  simp only [go_sem,l87_0,h1,decide_true,zB,zD,zC,reduceIte,reduceCtorEq,zA]
  have hp:=joined_pc s h hlt hj
  refine cp n105 hp (SubL.refl _) ?_
  by_cases hf:ent V k j<far
  ·have hb:baseG V n j=k:=by
    unfold baseG
    have:(List.range n).find? (fun b=>decide (ent V b j<far))=some k:=by
     rw [List.find?_eq_some_iff_append]
     refine ⟨by rw [decide_eq_true hf],List.range k,(List.range (n - (k+1))).map (fun x=>k+1+x), ?_,fun b hb => ?_⟩
     ·have:n=k+1+(n - (k+1)):=by omega
      conv=>lhs;rw [this,List.range_add,yI]
      simp
     ·have:=hP b (List.mem_range.1 hb)
      simp [this]
    rw [this];rfl
   simp only [go_sem,hf,decide_true,Tryz.f87,zB,zD,zC,reduceIte,reduceCtorEq,zA]
   rw [hb]
  ·simp only [go_sem,hf,decide_false,h4,zB,zD,zC,reduceIte,reduceCtorEq,zA]
   refine hI hlt fun b hb => ?_
   by_cases e:b=k
   ·subst e;exact hf
   ·exact hP b (by omega)
 ·have h1:¬ (k:Int)<s.stations:=by omega
  have hb:baseG V n j=j:=by
   unfold baseG
   have:(List.range n).find? (fun b=>decide (ent V b j<far))=none:=by
    rw [List.find?_eq_none]
    intro b hb
    have:=hP b (by have:=List.mem_range.1 hb;omega)
    simp [this]
   rw [this];rfl
  simp only [go_sem,l87_0,h1,decide_false,Tryz.f87,zB,zD,zC,reduceIte,reduceCtorEq,zA]
  rw [hb]
end Go.Av.Lx
end
section
namespace Go.Av.Lx
open Go Go.Av Go.Av.Tb Go.Av.Fx Go.Proofs
def Own (l:List AV) (n:Nat) (V:AV) (nt:Nat) (toks:List Nat):Prop:=(V=.nilS∧l=[]∧n=0) ∨ ∃ k,V=.slice l n (.tok k)∧k∈toks∧k<nt
def tokOf:AV→Option Nat
 | .slice _ _ (.tok k)=>some k
 | _=>none
def Apart (V W:AV):Prop:=∀ k,tokOf V=some k→tokOf W≠some k
theorem Apart.symm {V W:AV} (h:Apart V W):Apart W V:=fun k h1 h2=>h k h2 h1
theorem Own.nil (nt:Nat) (toks:List Nat):Own [] 0 .nilS nt toks:=.inl ⟨rfl,rfl,rfl⟩
theorem apart_nil (W:AV):Apart .nilS W:=fun k h=>by cases h
theorem Own.cells {l:List AV} {n:Nat} {V:AV} {nt:Nat} {toks:List Nat} (h:Own l n V nt toks):V.cells=[V]∧V.one=true:=by
 rcases h with ⟨rfl,_,rfl⟩ | ⟨k,rfl,_,_⟩
 ·exact ⟨rfl,rfl⟩
 ·exact ⟨rfl,rfl⟩
theorem Own.frz {l:List AV} {n:Nat} {V:AV} {nt:Nat} {toks:List Nat} (h:Own l n V nt toks) (H:List (Option Blk)):Frz H V (.slice l n .unk):=by
 rcases h with ⟨rfl,rfl,rfl⟩ | ⟨k,rfl,_,_⟩
 ·exact .nil
 ·exact .unk _ _ _
theorem Own.sub {l:List AV} {n:Nat} {V:AV} {nt:Nat} {toks:List Nat} (h:Own l n V nt toks):Sub V (.slice l n .unk):=by
 rcases h with ⟨rfl,rfl,rfl⟩ | ⟨k,rfl,_,_⟩
 ·exact Sub.nil
 ·exact Sub.unk _ _ _
structure Grown (V V':AV) (l:List AV) (n:Nat) (nt:Nat) (toks toks':List Nat):Prop where
 own:Own l n V' (nt+1) toks'
 tok:V'=.slice l n (.tok nt)
 keep:∀ W l2 n2,Own l2 n2 W nt toks→Apart V W→Own l2 n2 W (nt+1) toks'∧Apart V' W
structure RowT (t e:TypeId) (z:Nat):Prop where
 ds:descOf T t=some (.slice e)
 te:∃ ei,T e=some ei∧ei.size=z∧ei.bytes≤1000
 z:z≠0
theorem Own.len {t e:TypeId} {z:Nat} (ht:RowT t e z) {l:List AV} {n:Nat} {V:AV} {nt:Nat} {toks:List Nat} (h:Own l n V nt toks) (S:St):zAa T S .len [t] [V]=some (.pure (.int .i64 n)):=by
 rcases h with ⟨rfl,_,rfl⟩ | ⟨k,rfl,_,_⟩
 ·simp [zAa,lenA,ht.ds]
 ·simp [zAa,lenA,ht.ds]
theorem own_grow {t e:TypeId} {z:Nat} (ht:RowT t e z) {l lx:List AV} {n nx:Nat} {V:AV} {nt:Nat} {toks:List Nat} (h:Own l n V nt toks) (hl:l.length=n * z) (hx:lx.length=nx * z) (hnx:nx≠0) (h1:lx.all AV.one=true) (hlim:n+nx≤1000000) (b:St) (tx:Tail) :
  ∃ kill V' toks',appendA T b t V (.slice lx nx tx)=some (.tok kill fun j=>.slice (l ++ lx) (n+nx) (.tok j))∧(∀ k,kill=some k→k∈toks)∧toks'=nt :: killTok toks kill∧V'=.slice (l ++ lx) (n+nx) (.tok nt)∧Grown V V' (l ++ lx) (n+nx) nt toks toks':=by
 obtain ⟨ei,he,hz,hb⟩:=ht.te
 have hheld:heldA b ei.size (.slice lx nx tx)=some (lx,nx):=by
  unfold heldA
  simp [hz,hx]
 have hbb:(n+nx) * ei.bytes≤1099511627776:=Nat.le_trans (Nat.mul_le_mul hlim hb) (by decide)
 rcases h with ⟨rfl,rfl,rfl⟩ | ⟨k,rfl,hk,hkn⟩
 ·refine ⟨none,_,_, ?_,(fun k h=>by cases h),rfl,rfl,⟨.inr ⟨nt,rfl,zO,Nat.lt_succ_self _⟩,rfl,fun W l2 n2 hW _ => ?_⟩⟩
  ·unfold appendA
   have hz':ei.size≠0:=by rw [hz];exact ht.z
   rw [ht.ds]
   simp only [he]
   rw [if_neg hz',hheld]
   simp only [if_neg hnx,h1,zX,zU,if_false]
   rw [if_pos ⟨by simpa using hbb,by omega⟩]
   simp
  ·rcases hW with ⟨rfl,rfl,rfl⟩ | ⟨j,rfl,hj,hjn⟩
   ·exact ⟨Own.nil _ _,(apart_nil _).symm⟩
   ·exact ⟨.inr ⟨j,rfl,zQ _ hj,by omega⟩,fun q h1 h2=>by simp [tokOf] at h1 h2;omega⟩
 ·refine ⟨some k,_,_,zCt ht.ds he (by rw [hz];exact ht.z) hheld hnx h1 hbb (by omega) (by rw [hz];exact hl),(fun j h=>by cases h;exact hk),rfl,rfl,⟨.inr ⟨nt,rfl,zO,Nat.lt_succ_self _⟩,rfl,fun W l2 n2 hW ha => ?_⟩⟩
  rcases hW with ⟨rfl,rfl,rfl⟩ | ⟨j,rfl,hj,hjn⟩
  ·exact ⟨Own.nil _ _,(apart_nil _).symm⟩
  ·have hne:j≠k:=fun e=>ha k rfl (by simp [tokOf,e])
   exact ⟨.inr ⟨j,rfl,zQ _ (List.mem_filter.2 ⟨hj,by simpa using hne⟩),by omega⟩,fun q h1 h2=>by simp [tokOf] at h1 h2;omega⟩
theorem zCr {t e:TypeId} {z:Nat} (ht:RowT t e z) {l lx:List AV} {n nx:Nat} {V:AV} {nt:Nat} {toks:List Nat} (h:Own l n V nt toks) (hl:l.length=n * z) (hx:lx.length=nx * z) (hnx:nx≠0) (h1:lx.all AV.one=true) (hlim:n+nx≤1000000) {b:St} {tx:Tail} {H:List (Option Blk)} {K:AV→St→Prop} {hK:Hold K}
  (next:∀ V' toks',Grown V V' (l ++ lx) (n+nx) nt toks toks'→K V' ⟨H,nt+1,toks'⟩):sr K hK (appendA T b t V (.slice lx nx tx)) ⟨H,nt,toks⟩:=by
 obtain ⟨kill,V',toks',e,hk,rfl,rfl,hg⟩:=own_grow ht h hl hx hnx h1 hlim b tx
 rw [e]
 cases kill with
 | none=>rw [sr_tok];exact next _ _ hg
 | some k=>rw [zBx];exact ⟨hk k rfl,next _ _ hg⟩
theorem own_sq {t e:TypeId} {z:Nat} (ht:RowT t e z) {l lx:List AV} {n nx:Nat} {V:AV} {nt:Nat} {toks:List Nat} (h:Own l n V nt toks) (hl:l.length=n * z) (hx:lx.length=nx * z) (hnx:nx≠0) (h1:lx.all AV.one=true) (hlim:n+nx≤1000000) {b:St} {tx:Tail} {H:List (Option Blk)} {K:AV→St→Prop} {hK:Hold K}
  (next:∀ V' toks',Grown V V' (l ++ lx) (n+nx) nt toks toks'→K V' ⟨H,nt+1,toks'⟩):sq K hK (appendA T b t V (.slice lx nx tx)) ⟨H,nt,toks⟩:=by
 obtain ⟨kill,V',toks',e,hk,rfl,rfl,hg⟩:=own_grow ht h hl hx hnx h1 hlim b tx
 rw [e]
 cases kill with
 | none=>rw [sq_tok];exact next _ _ hg
 | some k=>rw [sq_tok_some];exact ⟨hk k rfl,next _ _ hg⟩
theorem rowInts:RowT 32 3 1:=⟨rfl,⟨_,rfl,rfl,by decide⟩,by decide⟩
theorem rowRows:RowT 35 32 1:=⟨rfl,⟨_,rfl,rfl,by decide⟩,by decide⟩
theorem zDr:RowT 22 85 4:=⟨rfl,⟨_,rfl,rfl,by decide⟩,by decide⟩
theorem rowChoices:RowT 153 155 2:=⟨rfl,⟨_,rfl,rfl,by decide⟩,by decide⟩
theorem rowStrings:RowT 171 9 1:=⟨rfl,⟨_,rfl,rfl,by decide⟩,by decide⟩
end Go.Av.Lx
end
section
set_option maxHeartbeats 1000000
namespace Go.Av.Lx
open Go Go.Av Go.Av.Tb Go.Av.Fx Go.Proofs
open Go.Lv (Sight Survey Sw Sv SightOk)
open Go.Fw (Sq ent Bd Mat)
def lowAt (V:Mat) (n j:Nat):Int:=IntKind.i64.wrap (0 - ent V j (baseG V n j))
def highAt (V:Mat) (n j:Nat):Int:=ent V (baseG V n j) j
theorem ints_app (l l':List Int):ints l ++ ints l'=ints (l ++ l'):=by simp [ints]
theorem baseG_lt (V:Mat) {n j:Nat} (hj:j<n):baseG V n j<n:=by
 unfold baseG
 cases h:(List.range n).find? fun b=>decide (ent V b j<far) with
 | none=>exact hj
 | some b=>exact List.mem_range.1 (List.mem_of_find?_eq_some h)
def zEw (s:Survey):AV:=
 if zAp s=true then (match Lv.knownV s with
  | some V=>.tuple [sl ((List.range (Lv.num s)).map (lowAt V (Lv.num s))),sl ((List.range (Lv.num s)).map (highAt V (Lv.num s))),.int .i64 0]
  | none=>.tuple [.nilS,.nilS,.int .i64 7])
 else .tuple [.nilS,.nilS,.int .i64 2]
theorem heightsA_bnd (s:Survey):(zEw s).bnd 0 0=true:=by
 unfold zEw
 split
 ·split
  ·simp [AV.bnd,bndL]
  ·rfl
 ·rfl
theorem frz_three {h:List (Option Blk)} {a b c a' b' c':AV} (h1:Frz h a a') (h2:Frz h b b') (h3:Frz h c c'):Frz h (.tuple [a,b,c]) (.tuple [a',b',c']):=
 .tuple _ _ rfl fun j x y hx hy=>by
  match j,hx,hy with
  | 0,hx,hy=>simp at hx hy;subst hx;subst hy;exact h1
  | 1,hx,hy=>simp at hx hy;subst hx;subst hy;exact h2
  | 2,hx,hy=>simp at hx hy;subst hx;subst hy;exact h3
  | j+3,hx,hy=>simp at hx
theorem Heights_pc (s:Survey) (hl:okL s.sights.length):PC Tryz.prog 26 [surA s] (.pure (zEw s)):=by
 refine PC.of_frz (AC.run (E_ok _) mix Tryz.func26 m26 rfl rfl rfl (zE rfl) ?_) (by simp [bndL,AV.bnd]) (heightsA_bnd s)
 unfold zEw
 simp only [go_sem,boxA,zB,zD,zC,reduceIte,reduceCtorEq,zA]
 refine cp n86 (zCg s hl true) (SubL.refl _) ?_
 unfold askedA
 cases hs:zAp s
 ·simp only [go_sem,qW,zAc,Tryz.f26,zB,zD,zC,reduceIte,reduceCtorEq,zA]
  exact ⟨_,rfl,.same _⟩
 have hv:=zDp.1 hs
 cases hV:Lv.knownV s with
 | none =>
  simp only [go_sem,zJ,zAc,Tryz.f26,zB,zD,zC,reduceIte,reduceCtorEq,zA]
  exact ⟨_,rfl,.same _⟩
 | some V =>
  have hsq:Sq (Lv.num s) V:=zBl (ds:=[]) hV
  have hst:s.stations=(Lv.num s:Int):=by have:=hv.st;show _=((s.stations.toNat:Nat):Int);omega
  have hn8:Lv.num s≤8:=hv.toSw.num8
  generalize Lv.num s=n at *
  simp only [go_sem,zJ,zAc,kvC,zB,zD,zC,reduceIte,reduceCtorEq,zA]
  refine zAs (fun m ts' S' => ∃ k V1 V2 nt tk Hh,k≤n∧m=n - k∧ts'=[(5,.ref 1 0),(7,V1),(8,V2),(20,.int .i64 s.stations),(21,.int .i64 k)]∧S'=⟨Hh,nt,tk⟩∧cellsAt Hh 1=some (kvC s (wS V))∧Own (ints ((List.range k).map (lowAt V n))) k V1 nt tk∧Own (ints ((List.range k).map (highAt V n))) k V2 nt tk∧Apart V1 V2) n ⟨0,.nilS,.nilS,0,[],_,qI _,rfl,rfl,rfl,rfl,Own.nil _ _,Own.nil _ _,apart_nil _⟩ ?_
  rintro m ts' S' ⟨k,V1,V2,nt,tk,Hh,hk,rfl,rfl,rfl,hc,o1,o2,ap⟩
  by_cases hlt:k<n
  ·have h1:(k:Int)<s.stations:=by omega
   have h4:IntKind.i64.wrap ((k:Int)+1)=(k+1:Nat):=wrap64 (by omega)
   have c1:=zAf Hh
   have c2:=fun x B=>zAt Hh x B
   have ca:=zAn hc
   simp only [go_sem,l26_0,h1,decide_true,hc,kvC,zB,zD,zC,reduceIte,reduceCtorEq,zA]
   refine qp n87 (base_pc s hst (by omega) hsq hlt) (SubL.refl _) ?_
   simp only [go_sem,zB,zD,zC,reduceIte,reduceCtorEq,zA]
   refine qp n85 (span_pc s hsq (baseG_lt V hlt) hlt) (SubL.refl _) ?_
   simp only [go_sem,spanA,c1,c2,zAd,AV.cells,AV.one,zK,zM,zJ,splice,zH,zG,zB,zD,zC,reduceIte,reduceCtorEq,zA]
   simp only [go_sem,zAa,zB,zD,zC,reduceIte,reduceCtorEq,zA]
   refine own_sq (lx:=[.int .i64 (IntKind.i64.wrap (0 - ent V k (baseG V n k)))]) rowInts o1 (by simp) rfl (by decide) rfl (by omega) fun V1' tk1 g1 => ?_
   obtain ⟨o2',ap'⟩:=g1.keep _ _ _ o2 ap
   simp only [go_sem,c1,zAa,zB,zD,zC,reduceIte,reduceCtorEq,zA]
   refine zCr (lx:=[.int .i64 (ent V (baseG V n k) k)]) rowInts o2' (by simp) rfl (by decide) rfl (by omega) fun V2' tk2 g2 => ?_
   obtain ⟨o1',ap''⟩:=g2.keep _ _ _ g1.own ap'.symm
   simp only [go_sem,h4,zB,zD,zC,reduceIte,reduceCtorEq,zA]
   refine zAh (n - (k+1)) (by omega) ⟨k+1,V1',V2',nt+1+1,tk2,_,hlt,rfl,rfl,rfl,ca _, ?_, ?_,ap''.symm⟩
   ·have:=o1'
    rw [show [AV.int .i64 (IntKind.i64.wrap (0 - ent V k (baseG V n k)))]=ints [lowAt V n k] from rfl,ints_app] at this
    rw [yI,qP]
    exact this
   ·have:=g2.own
    rw [show [AV.int .i64 (ent V (baseG V n k) k)]=ints [highAt V n k] from rfl,ints_app] at this
    rw [yI,qP]
    exact this
  ·have h1:¬ (k:Int)<s.stations:=by omega
   have e:k=n:=by omega
   subst e
   simp only [go_sem,l26_0,h1,decide_false,Tryz.f26,zB,zD,zC,reduceIte,reduceCtorEq,zA]
   refine ⟨_,rfl,frz_three ?_ ?_ (.same _)⟩
   ·simpa [sl] using o1.frz Hh
   ·simpa [sl] using o2.frz Hh
set_option maxHeartbeats 1000000
theorem setH_at:∀ {h:List (Option Blk)} {i:Nat} {B:Blk},i<h.length→setH h i B=h.set i (some B)
 | [],i,B,h=>by simp at h
 | x :: h,0,B,_=>rfl
 | x :: h,i+1,B,hi=>by
  show x :: setH h i B=x :: h.set i (some B)
  rw [setH_at (by simpa using hi)]
end Go.Av.Lx
end
section
namespace Go.Lv
open Go.Fw Go.Wk
def risAt (n:Nat) (x:List Int) (i:Nat):Bool:=decide (0≤x.getD i 0) && decide (x.getD i 0<n) && (decide (i=0) || decide (x.getD (i - 1) 0<x.getD i 0))
def risB (n:Nat) (x:List Int):Bool:=(List.range x.length).all (risAt n x)
def lexI:List Int→List Int→Bool
 | x :: a,y :: b=>if x=y then lexI a b else decide (x<y)
 | _,_=>false
theorem lexI_drop:∀ (a b:List Int) (k:Nat),a.length=b.length→(∀ i (h1:i<k) (h2:i<a.length) (h3:i<b.length),a[i]=b[i])→lexI a b=lexI (a.drop k) (b.drop k)
 | a,b,0,_,_=>rfl
 | [],[],k+1,_,_=>rfl
 | x :: a,y :: b,k+1,hl,h=>by
  have h0:=h 0 (by omega) (by simp) (by simp)
  simp only [List.getElem_cons_zero] at h0
  subst h0
  simp only [lexI,if_true,List.drop_succ_cons]
  exact lexI_drop a b k (by simpa using hl) fun i h1 h2 h3=>by
   have:=h (i+1) (by omega) (by simpa using h2) (by simpa using h3)
   simpa using this
def stpLt (x y:Stp):Bool:=decide (x.sight<y.sight) || (decide (x.sight=y.sight) && !x.back)
def befS:List Stp→List Stp→Bool
 | x :: a,y :: b=>if x=y then befS a b else stpLt x y
 | _,_=>false
theorem befS_drop:∀ (a b:List Stp) (k:Nat),a.length=b.length→(∀ i (h1:i<k) (h2:i<a.length) (h3:i<b.length),a[i]=b[i])→befS a b=befS (a.drop k) (b.drop k)
 | a,b,0,_,_=>rfl
 | [],[],k+1,_,_=>rfl
 | x :: a,y :: b,k+1,hl,h=>by
  have h0:=h 0 (by omega) (by simp) (by simp)
  simp only [List.getElem_cons_zero] at h0
  subst h0
  simp only [befS,if_true,List.drop_succ_cons]
  exact befS_drop a b k (by simpa using hl) fun i h1 h2 h3=>by
   have:=h (i+1) (by omega) (by simpa using h2) (by simpa using h3)
   simpa using this
end Go.Lv
end
section
set_option maxHeartbeats 1000000
namespace Go.Av.Lx
open Go Go.Av Go.Av.Tb Go.Av.Fx Go.Proofs
open Go.Lv (Sight Survey Sw Sv SightOk Leg LegOk RangeOk Tun TunOk Try TryOk Stp)
open Go.Fw (Sq ent Bd Mat)
section
variable {α:Type} {f:α→List AV} {w:Nat}
theorem cat_len (hf:∀ x,(f x).length=w) (l:List α):(l.flatMap f).length=l.length * w:=by
 induction l with
 | nil=>simp
 | cons c l ih=>rw [yD,qE,ih,hf,zT,Nat.add_mul];omega
theorem cat_at (hf:∀ x,(f x).length=w):∀ (l:List α) (k:Nat) (h:k<l.length),((l.flatMap f).drop (k * w)).take w=f l[k]
 | c :: l,0,h=>by
  rw [Nat.zero_mul,List.drop_zero,yD]
  exact List.take_left' (hf c)
 | c :: l,k+1,h=>by
  have:=cat_at hf l k (by simpa using h)
  rw [show (k+1) * w=w+k * w by rw [Nat.add_mul];omega,← List.drop_drop,yD,List.drop_left' (hf c)]
  simpa using this
theorem cat_snoc (l:List α) (x:α):l.flatMap f ++ f x=(l ++ [x]).flatMap f:=by simp
theorem cat_one (h:∀ x,(f x).all AV.one=true) (l:List α):(l.flatMap f).all AV.one=true:=by
 rw [qX]
 intro y hy
 obtain ⟨x,_,hx⟩:=List.mem_flatMap.1 hy
 exact List.all_eq_true.1 (h x) y hx
end
abbrev legC (x:Leg):List AV:=[.int .i64 x.frm,.int .i64 x.to,.int .i64 x.long]
abbrev tunC (x:Tun):List AV:=[.int .i64 x.frm,.int .i64 x.to,.int .i64 x.long,.int .i64 x.fall,.int .i64 x.err]
abbrev tryC (x:Try):List AV:=[.int .i64 x.frm,.int .i64 x.to,.int .i64 x.off]
abbrev stpC (x:Stp):List AV:=[.int .i64 x.sight,.bool x.back]
def legsC (l:List Leg):List AV:=l.flatMap legC
def triesC (l:List Try):List AV:=l.flatMap tryC
def stpsC (l:List Stp):List AV:=l.flatMap stpC
attribute [go_sem] legC tunC tryC stpC
@[simp] theorem legsC_len (l:List Leg):(legsC l).length=l.length * 3:=cat_len (f:=legC) (fun _=>rfl) l
@[simp] theorem triesC_len (l:List Try):(triesC l).length=l.length * 3:=cat_len (f:=tryC) (fun _=>rfl) l
@[simp] theorem zEx (l:List Stp):(stpsC l).length=l.length * 2:=cat_len (f:=stpC) (fun _=>rfl) l
@[simp] theorem legsC_bnd (n k:Nat) (l:List Leg):bndL n k (legsC l)=true:=zBd _ (fun _=>rfl) l
@[simp] theorem triesC_bnd (n k:Nat) (l:List Try):bndL n k (triesC l)=true:=zBd _ (fun _=>rfl) l
@[simp] theorem stpsC_bnd (n k:Nat) (l:List Stp):bndL n k (stpsC l)=true:=zBd _ (fun _=>rfl) l
abbrev legsA (l:List Leg):AV:=.slice (legsC l) l.length .unk
abbrev triesA (l:List Try):AV:=.slice (triesC l) l.length .unk
abbrev stpsA (l:List Stp):AV:=.slice (stpsC l) l.length .unk
def rangeB (lo hi:Int):Bool:=inB lo 0 hi && decide (hi≤20)
theorem range_iff {lo hi:Int}:rangeB lo hi=true↔RangeOk lo hi:=by
 unfold rangeB
 rw [zR,inB_iff,decide_eq_true_iff]
 exact ⟨fun ⟨⟨a,b⟩,c⟩=>⟨a,b,c⟩,fun h=>⟨⟨h.l0,h.mid⟩,h.top⟩⟩
theorem isRange_pc (lo hi:Int):PC Tryz.prog 101 [.int .i64 lo,.int .i64 hi] (.pure (.bool (rangeB lo hi))):=by
 refine PC.of_empty (AC.run (E_ok _) mix Tryz.func101 m101 rfl rfl rfl (zE rfl) ?_) rfl rfl
 simp only [go_sem,zB,zD,zC,reduceIte,reduceCtorEq,zA]
 refine cp n100 (in_pc _ _ _) (SubL.refl _) ?_
 rw [show (decide (lo ≥ 0) && decide (lo≤hi))=inB lo 0 hi from rfl]
 unfold rangeB
 cases inB lo 0 hi
 ·simp only [go_sem,qW,Tryz.f101,zB,zD,zC,reduceIte,reduceCtorEq,zA]
 ·simp only [go_sem,qU,Tryz.f101,zB,zD,zC,reduceIte,reduceCtorEq,zA]
theorem endsL_pc (x:Leg):PC Tryz.prog 240 [.agg (legC x)] (.pure (.tuple [.int .i64 x.frm,.int .i64 x.to])):=by
 refine PC.of_empty (AC.run (E_ok _) mix Tryz.func240 m240 rfl rfl rfl (zE rfl) ?_) (by simp [bndL,AV.bnd]) rfl
 simp only [go_sem,boxA,Tryz.f240,zB,zD,zC,reduceIte,reduceCtorEq,zA]
theorem endsT_pc (x:Tun):PC Tryz.prog 241 [.agg (tunC x)] (.pure (.tuple [.int .i64 x.frm,.int .i64 x.to])):=by
 refine PC.of_empty (AC.run (E_ok _) mix Tryz.func241 m241 rfl rfl rfl (zE rfl) ?_) (by simp [bndL,AV.bnd]) rfl
 simp only [go_sem,boxA,Tryz.f241,zB,zD,zC,reduceIte,reduceCtorEq,zA]
theorem endsY_pc (x:Try):PC Tryz.prog 239 [.agg (tryC x)] (.pure (.tuple [.int .i64 x.frm,.int .i64 x.to])):=by
 refine PC.of_empty (AC.run (E_ok _) mix Tryz.func239 m239 rfl rfl rfl (zE rfl) ?_) (by simp [bndL,AV.bnd]) rfl
 simp only [go_sem,boxA,Tryz.f239,zB,zD,zC,reduceIte,reduceCtorEq,zA]
@[go_sem] theorem bd_leg (a b c:Int):buildA T 198 [(0,.agg [.int .i64 a,.int .i64 b,.int .i64 c])]=some (.agg [.int .i64 a,.int .i64 b,.int .i64 c]):=rfl
@[go_sem] theorem d_leg:descOf T 198=some ti198.desc:=rfl
@[go_sem] theorem i_leg:isIface ti198.desc=false:=rfl
@[go_sem] theorem bd_tun (a b c d e:Int):buildA T 200 [(0,.agg [.int .i64 a,.int .i64 b,.int .i64 c,.int .i64 d,.int .i64 e])]=some (.agg [.int .i64 a,.int .i64 b,.int .i64 c,.int .i64 d,.int .i64 e]):=rfl
@[go_sem] theorem d_tun:descOf T 200=some ti200.desc:=rfl
@[go_sem] theorem i_tun:isIface ti200.desc=false:=rfl
@[go_sem] theorem bd_try (a b c:Int):buildA T 161 [(0,.agg [.int .i64 a,.int .i64 b,.int .i64 c])]=some (.agg [.int .i64 a,.int .i64 b,.int .i64 c]):=rfl
@[go_sem] theorem d_try:descOf T 161=some ti161.desc:=rfl
@[go_sem] theorem i_try:isIface ti161.desc=false:=rfl
def legB (s:Survey) (x:Leg):Bool:=linkB s x.frm x.to && inB x.long 1 100
theorem isLeg_pc (s:Survey) (x:Leg):PC Tryz.prog 104 [surA s,.agg (legC x)] (.pure (.bool (legB s x))):=by
 refine PC.of_empty (AC.run (E_ok _) mix Tryz.func104 m104 rfl rfl rfl (zE rfl) ?_) (by simp [bndL,AV.bnd]) rfl
 have hI:=zEu s (t:=198) (g:=240) rfl n240 (.agg (legC x)) (by simp [AV.bnd,bndL]) _ _ (endsL_pc x)
 unfold legB
 simp only [go_sem,boxA,zB,zD,zC,reduceIte,reduceCtorEq,zA]
 refine cp n115 hI (SubL.refl _) ?_
 cases linkB s x.frm x.to
 ·simp only [go_sem,qW,Tryz.f104,zB,zD,zC,reduceIte,reduceCtorEq,zA]
 simp only [go_sem,qU,zB,zD,zC,reduceIte,reduceCtorEq,zA]
 refine cp n100 (in_pc _ _ _) (SubL.refl _) ?_
 rw [show (decide (x.long ≥ 1) && decide (x.long≤100))=inB x.long 1 100 from rfl]
 simp only [go_sem,Tryz.f104,zB,zD,zC,reduceIte,reduceCtorEq,zA]
theorem link_iff {s:Survey} (h:2≤s.stations∧s.stations≤8) {a b:Int}:linkB s a b=true↔(0≤a∧a<s.stations)∧(0≤b∧b<s.stations)∧a≠b:=by
 unfold linkB
 rw [zR,zR,zBu h,zBu h,decide_eq_true_iff]
theorem leg_iff {s:Survey} (h:2≤s.stations∧s.stations≤8) {x:Leg}:legB s x=true↔LegOk s.stations x:=by
 unfold legB
 rw [zR,link_iff h,inB_iff]
 exact ⟨fun ⟨⟨a,b,c⟩,d⟩=>⟨a,b,c,d⟩,fun h=>⟨⟨h.frm,h.to,h.ne⟩,h.long⟩⟩
def tunB (s:Survey) (x:Tun):Bool:=linkB s x.frm x.to && (inB x.long 1 100 && (inB x.fall 0 20 && inB x.err 0 5))
theorem tun_iff {s:Survey} (h:2≤s.stations∧s.stations≤8) {x:Tun}:tunB s x=true↔TunOk s.stations x:=by
 unfold tunB
 rw [zR,zR,zR,link_iff h,inB_iff,inB_iff,inB_iff]
 exact ⟨fun ⟨⟨a,b,c⟩,d,e,f⟩=>⟨a,b,c,d,e,f⟩,fun h=>⟨⟨h.frm,h.to,h.ne⟩,h.long,h.fall,h.err⟩⟩
theorem isTunnel_pc (s:Survey) (x:Tun):PC Tryz.prog 109 [surA s,.agg (tunC x)] (.pure (.bool (tunB s x))):=by
 refine PC.of_empty (AC.run (E_ok _) mix Tryz.func109 m109 rfl rfl rfl (zE rfl) ?_) (by simp [bndL,AV.bnd]) rfl
 have hI:=zEu s (t:=200) (g:=241) rfl n241 (.agg (tunC x)) (by simp [AV.bnd,bndL]) _ _ (endsT_pc x)
 unfold tunB
 simp only [go_sem,boxA,zB,zD,zC,reduceIte,reduceCtorEq,zA]
 refine cp n115 hI (SubL.refl _) ?_
 cases linkB s x.frm x.to
 ·simp only [go_sem,qW,Tryz.f109,zB,zD,zC,reduceIte,reduceCtorEq,zA]
 simp only [go_sem,qU,zB,zD,zC,reduceIte,reduceCtorEq,zA]
 refine cp n100 (in_pc _ _ _) (SubL.refl _) ?_
 rw [show (decide (x.long ≥ 1) && decide (x.long≤100))=inB x.long 1 100 from rfl]
 cases inB x.long 1 100
 ·simp only [go_sem,qW,Tryz.f109,zB,zD,zC,reduceIte,reduceCtorEq,zA]
 simp only [go_sem,qU,zB,zD,zC,reduceIte,reduceCtorEq,zA]
 refine cp n100 (in_pc _ _ _) (SubL.refl _) ?_
 rw [show (decide (x.fall ≥ 0) && decide (x.fall≤20))=inB x.fall 0 20 from rfl]
 cases inB x.fall 0 20
 ·simp only [go_sem,qW,Tryz.f109,zB,zD,zC,reduceIte,reduceCtorEq,zA]
 simp only [go_sem,qU,zB,zD,zC,reduceIte,reduceCtorEq,zA]
 refine cp n100 (in_pc _ _ _) (SubL.refl _) ?_
 rw [show (decide (x.err ≥ 0) && decide (x.err≤5))=inB x.err 0 5 from rfl]
 simp only [go_sem,Tryz.f109,zB,zD,zC,reduceIte,reduceCtorEq,zA]
def badTry (s:Survey) (x:Try):Bool:=!linkB s x.frm x.to || !inB x.off 0 50
theorem try_iff {s:Survey} (h:2≤s.stations∧s.stations≤8) {x:Try}:badTry s x=false↔TryOk s.stations x:=by
 unfold badTry
 rw [Bool.or_eq_false_iff,Bool.not_eq_false',Bool.not_eq_false',link_iff h,inB_iff]
 exact ⟨fun ⟨⟨a,b,c⟩,d⟩=>⟨a,b,c,d⟩,fun h=>⟨⟨h.frm,h.to,h.ne⟩,h.off⟩⟩
theorem takes1_pc (s:Survey) (x:Try):PC Tryz.prog 114 [.agg (tryC x),.eptr (surC s) 0] (.pure (.bool (badTry s x))):=by
 refine PC.of_empty (AC.run (E_ok _) mix Tryz.func114 m114 rfl rfl rfl (zE rfl) ?_) (by simp [bndL,AV.bnd]) rfl
 have hI:=zEu s (t:=161) (g:=239) rfl n239 (.agg (tryC x)) (by simp [AV.bnd,bndL]) _ _ (endsY_pc x)
 unfold badTry
 simp only [go_sem,boxA,zB,zD,zC,reduceIte,reduceCtorEq,zA]
 refine cp n115 hI (SubL.refl _) ?_
 cases linkB s x.frm x.to
 ·simp only [go_sem,zAi,qF,Bool.true_or,Tryz.f114,zB,zD,zC,reduceIte,reduceCtorEq,zA]
 simp only [go_sem,zAi,zX,Bool.false_or,zB,zD,zC,reduceIte,reduceCtorEq,zA]
 refine cp n100 (in_pc _ _ _) (SubL.refl _) ?_
 rw [show (decide (x.off ≥ 0) && decide (x.off≤50))=inB x.off 0 50 from rfl]
 simp only [go_sem,zAi,Tryz.f114,zB,zD,zC,reduceIte,reduceCtorEq,zA]
end Go.Av.Lx
end
