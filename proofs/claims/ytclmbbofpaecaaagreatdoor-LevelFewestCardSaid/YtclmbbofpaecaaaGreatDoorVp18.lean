/- Part 18 of the proof. -/
import Derived.Test.YtclmbbofpaecaaaGreatDoorVp17
import Derived.Test.YtclmbbofpaecaaaGreatDoorVp14
import Derived.Test.YtclmbbofpaecaaaGreatDoorVp16
set_option linter.all false
set_option linter.unusedVariables false
set_option linter.unusedSimpArgs false
set_option linter.unusedSectionVars false
open Bool renaming and_self → zJ, false_eq_true → zT, not_true → zV, not_false → qD, false_and → qG, true_and → yA
open Int renaming toNat_natCast → qT
open List renaming set_cons_succ → zH, set_cons_zero → zI, all_cons → zL, all_nil → zO, mem_cons_self → zP, mem_cons_of_mem → zS, getElem?_append_right → zY, append_assoc → qN, map_append → qR, flatMap_cons → qW, range_succ → yN
open Nat renaming reduceLeDiff → zA, reduceEqDiff → zB, reduceAdd → zC, reduceBEq → zD, le_of_ble_eq_true → zE, le_refl → zN, zero_le → qH, not_lt_zero → qO
open Option.some renaming injEq → yW
section
set_option maxHeartbeats 1000000
namespace Go.Av.Fx
open Go Go.Av Go.Av.Tb Go.Proofs
open Go.Lv (Sight Survey Sw Sv SightOk)
open Go.Fw (Sq ent Bd Mat)
def kn (s:Survey) (ds:List Bound):Option Mat:=Lv.clo (Lv.num s) (ds.map bd ++ Lv.surveyB s)
theorem more_bd {s:Survey} (h:Sw s) (ds:List Bound):(moreB s ds).map bd=ds.map bd ++ Lv.surveyB s:=by
 rw [moreB,qR,List.map_flatMap]
 congr 1
 have:∀ l:List Sight,(∀ x∈l,SightOk s.stations x)→l.flatMap (fun a=>(sB a).map bd)=l.flatMap Lv.sightB:=fun l hl=>by
  induction l with
  | nil=>rfl
  | cons x l ih=>rw [qW,qW,sB_eq (hl x zP),ih fun y hy=>hl y (zS _ hy)]
 exact this _ h.sights
theorem kn_eq {s:Survey} (h:Sw s) (ds:List Bound):Fw.closed far (Lv.num s) ((moreB s ds).foldl putB (mat0 (Lv.num s) (Lv.num s)))=kn s ds:=by
 rw [bsM_eq,bsM,more_bd h];rfl
theorem known_ac (s:Survey) (h:Sw s) (hl:s.sights.length≤100) (ds:List Bound) (hd:ds.length≤1000) (hok:∀ x∈ds,BOk (Lv.num s) x) (M:AV) (H:List (Option Blk)) (N:Nat) (toks:List Nat) (hM:MoreA ds M ⟨H,N,toks⟩ N) :
  AC Tryz.prog 94 [surA s,M] ⟨H,N,toks⟩ fun e S' =>
   (kn s ds=none ∧ ∃ (a:Int) (A:List (Option Blk)) (nt:Nat) (tk:List Nat),e=.panic (.iface 191 (.agg [.int .i64 a]))∧S'=⟨H ++ A,nt,tk⟩∧N≤nt) ∨
   (∃ V,kn s ds=some V ∧ ∃ (A C:List (Option Blk)) (t:Tail) (nt:Nat) (tk:List Nat),e=.ret (.agg (kvC s (.slice (rowsO (H.length+3) (Lv.num s) (Lv.num s)) (Lv.num s) t)))∧S'=⟨H ++ (A ++ (heapR V ++ C)),nt,tk⟩∧A.length=3∧N≤nt):=by
 refine known_run s h hl ds hd hok M H N toks (.inl hM) _ (fun h0 a A nt tk hnt=>.inl ⟨by rw [← kn_eq h];exact h0,a,A,nt,tk,rfl,rfl,hnt⟩) fun V hV A C t nt tk h3 hnt=>.inr ⟨V,by rw [← kn_eq h];exact hV,A,C,t,nt,tk,rfl,rfl,h3,hnt⟩
theorem zBk {s:Survey} {ds:List Bound} {V:Mat} (h:kn s ds=some V):Sq (Lv.num s) V:=by
 unfold kn Lv.clo Fw.closed at h
 split at h
 ·simp only [yW] at h
  subst h
  refine Sq.upto ?_ _ _ _
  have:∀ (cs:List Bd) (W:Mat),Sq (Lv.num s) W→Sq (Lv.num s) (cs.foldl Fw.addc W):=by
   intro cs
   induction cs with
   | nil=>exact fun W h=>h
   | cons c cs ih=>exact fun W h=>ih _ (h.put _ _ _)
  exact this _ _ (sq_mat0 _)
 ·cases h
def possK (s:Survey) (ds:List Bound):Bool:=(kn s ds).isSome
theorem possible1_ac (s:Survey) (h:Sw s) (hl:s.sights.length≤100) (ds:List Bound) (hd:ds.length≤1000) (hok:∀ x∈ds,BOk (Lv.num s) x) (M:AV) (H:List (Option Blk)) (i j:Nat) (hi:cellsAt H i=some (surC s)) (hj:cellsAt H j=some [M]) (N:Nat) (toks:List Nat) (hM:MoreA ds M ⟨H,N,toks⟩ N) :
  AC Tryz.prog 156 [.ref i 0,.ref j 0] ⟨H,N,toks⟩ fun e S' => ∃ (A:List (Option Blk)) (nt:Nat) (tk:List Nat),S'=⟨H ++ A,nt,tk⟩∧N≤nt∧((possK s ds=false ∧ ∃ a:Int,e=.panic (.iface 191 (.agg [.int .i64 a])))∨(possK s ds=true∧e=.ret (.tuple []))):=by
 refine AC.run (Es_ok _ _) mix Tryz.func156 m156 rfl rfl rfl (zE rfl) ?_
 simp only [go_sem,hi,hj,zB,zD,zC,reduceIte,reduceCtorEq,zA]
 refine zCb (E:=Es _ _) n94 (known_ac s h hl ds hd hok M H N toks hM) (fun v S' hR => ?_) (fun v S' hR => ?_)
 ·rcases hR with ⟨_,_,_,_,_,e,_⟩ | ⟨V,hV,A,C,t,nt,tk,e,rfl,h3,hnt⟩
  ·cases e
  ·cases e
   simp only [go_sem,Tryz.f156,zB,zD,zC,reduceIte,reduceCtorEq,zA]
   exact ⟨_,_,_,rfl,hnt,.inr ⟨by rw [possK,hV];rfl,rfl⟩⟩
 ·rcases hR with ⟨h0,a,A,nt,tk,e,rfl,hnt⟩ | ⟨V,hV,A,C,t,nt,tk,e,rfl,h3,hnt⟩
  ·cases e
   exact ⟨_,_,_,rfl,hnt,.inl ⟨by rw [possK,h0];rfl,a,rfl⟩⟩
  ·cases e
theorem possible_ac (s:Survey) (h:Sw s) (hl:s.sights.length≤100) (ds:List Bound) (hd:ds.length≤1000) (hok:∀ x∈ds,BOk (Lv.num s) x) (M:AV) (hM1:M.cells=[M]∧M.one=true) (H:List (Option Blk)) (N:Nat) (toks:List Nat) (hM:MoreA ds M ⟨H,N,toks⟩ N) :
  AC Tryz.prog 107 [surA s,M] ⟨H,N,toks⟩ fun e S'=>e=.ret (.bool (possK s ds)) ∧ ∃ (A:List (Option Blk)) (nt:Nat) (tk:List Nat),S'=⟨H ++ A,nt,tk⟩∧N≤nt:=by
 refine AC.run (Es_ok _ _) mix Tryz.func107 m107 rfl rfl rfl (zE rfl) ?_
 obtain ⟨hM1,hM2⟩:=hM1
 have l1:∀ x,(H ++ [x]).length=H.length+1:=fun x=>by simp
 simp only [go_sem,boxA,hM1,hM2,l1,zB,zD,zC,reduceIte,reduceCtorEq,zA]
 obtain ⟨H2,hH2⟩:∃ H2,H2=H ++ [some (.cells (surC s)),some (.cells [M])]:=⟨_,rfl⟩
 have hl2:H2.length=H.length+2:=by rw [hH2];simp
 have i0:∀ X,cellsAt (H2 ++ X) H.length=some (surC s):=fun X=>by
  rw [hH2];unfold cellsAt;rw [qN,zY (zN _),Nat.sub_self];rfl
 have i1:∀ X,cellsAt (H2 ++ X) (H.length+1)=some [M]:=fun X=>by
  rw [hH2];unfold cellsAt;rw [qN,zY (by omega),Nat.add_sub_cancel_left];rfl
 rw [← hH2]
 refine zCb (E:=Es _ _) (R:=fun e S' => ∃ (A:List (Option Blk)) (nt:Nat) (tk:List Nat),S'=⟨H2 ++ A,nt,tk⟩∧N≤nt∧e=.ret (.int .i64 (if possK s ds=true then 0 else 7))) n92 (try_ac (S:=⟨H2,N,toks⟩) n156 (possible1_ac s h hl ds hd hok M (H2 ++ [some (.cells [.int .i64 0])]) H.length (H.length+1) (i0 _) (i1 _) N toks (hM.mono (fun _ hk _=>hk) (zN _))) ?_ ?_) ?_ ?_
 ·rintro v S' ⟨A,nt,tk,rfl,hnt,⟨_,_,e⟩ | ⟨hp,e⟩⟩
  ·cases e
  ·refine ⟨zAp (zAg _ _) _,_ :: A,nt,tk,by rw [qN];rfl,hnt,by rw [hp];rfl⟩
 ·rintro v S' ⟨A,nt,tk,rfl,hnt,⟨hp,a,e⟩ | ⟨hp,e⟩⟩
  ·cases e
   refine ⟨zAp (zAg _ _) _,.inl ⟨a,rfl,some (.cells [.int .i64 7]) :: (A ++ [some (.cells [.int .i64 a])]),nt,tk, ?_,hnt,by rw [hp];rfl⟩⟩
   unfold caught
   simp only [qN]
   rw [show H2.length=H2.length+0 from rfl,zDj];rfl
  ·cases e
 ·rintro v S' ⟨A,nt,tk,rfl,hnt,e⟩
  cases e
  cases hp:possK s ds
  ·simp only [go_sem,Tryz.f107,zB,zD,zC,reduceIte,reduceCtorEq,zA]
   first | exact ⟨rfl,_,_,_,by rw [hH2,qN],hnt⟩ | exact ⟨_,_,_,by rw [hH2,qN],hnt⟩
  ·simp only [go_sem,Tryz.f107,zB,zD,zC,reduceIte,reduceCtorEq,zA]
   first | exact ⟨rfl,_,_,_,by rw [hH2,qN],hnt⟩ | exact ⟨_,_,_,by rw [hH2,qN],hnt⟩
 ·rintro v S' ⟨A,nt,tk,rfl,hnt,e⟩
  cases e
theorem zDn (s:Survey) (h:Sw s) (hl:s.sights.length≤100):PC Tryz.prog 107 [surA s,.nilS] (.pure (.bool (Lv.possS s))):=by
 refine PC.of_empty ?_ (by simp [bndL,AV.bnd]) rfl
 have:=possible_ac s h hl [] (by simp) (fun x hx=>by cases hx) .nilS ⟨rfl,rfl⟩ [] 0 [] (.inl ⟨rfl,rfl⟩)
 exact AC.mono this fun e S' h=>by rw [h.1];rfl
def possA (s:Survey):AV:=if zAo s=true then .tuple [.bool (Lv.possS s),.int .i64 0] else .tuple [.bool false,.int .i64 2]
theorem zEn (s:Survey) (hl:okL s.sights.length):PC Tryz.prog 57 [surA s] (.pure (possA s)):=by
 refine PC.of_empty (AC.run (E_ok _) mix Tryz.func57 m57 rfl rfl rfl (zE rfl) ?_) (by simp [bndL,AV.bnd]) (by unfold possA;split <;> rfl)
 unfold possA
 simp only [go_sem,boxA,zB,zD,zC,reduceIte,reduceCtorEq,zA]
 refine cp n89 (zBg s hl) (SubL.refl _) ?_
 cases h:zAo s
 ·simp only [go_sem,zAh,qD,Tryz.f57,zB,zD,zC,reduceIte,reduceCtorEq,zA]
 ·have hv:=zBr.1 h
  simp only [go_sem,zAh,zV,zB,zD,zC,reduceIte,reduceCtorEq,zA]
  refine cp n107 (zDn s hv.toSw (by have:=hv.many;omega)) (SubL.refl _) ?_
  simp only [go_sem,Tryz.f57,zB,zD,zC,reduceIte,reduceCtorEq,zA]
end Go.Av.Fx
end
section
set_option maxHeartbeats 1000000
namespace Go.Av.Lx
open Go Go.Av Go.Av.Tb Go.Av.Fx Go.Proofs
open Go.Lv (Sight Survey Sw Sv SightOk)
open Go.Fw (Sq ent Bd Mat)
abbrev kA (s:Survey) (V:Mat):AV:=.agg (kvC s (wS V))
abbrev zeroK:AV:=.agg [.int .i64 0,.nilS,.nilS]
@[go_sem] theorem bd132z:buildA T 132 []=some (.agg [.int .i64 0,.nilS,.nilS]):=rfl
def askedA (s:Survey) (fine:Bool):AV:=
 if zAo s && fine then (match Lv.knownV s with
  | some V=>.tuple [kA s V,.int .i64 0]
  | none=>.tuple [zeroK,.int .i64 7])
 else .tuple [zeroK,.int .i64 2]
theorem askedA_bnd (s:Survey) (fine:Bool):(askedA s fine).bnd 0 0=true:=by
 unfold askedA
 split
 ·split <;> simp [AV.bnd,bndL]
 ·rfl
theorem asked1_ac (s:Survey) (h:Sw s) (hl:s.sights.length≤100) (H:List (Option Blk)) (i j:Nat) (hi:cellsAt H i=some (surC s)) (hj:cellsAt H j=some [.int .i64 0,.nilS,.nilS]) (N:Nat) (toks:List Nat) :
  AC Tryz.prog 144 [.ref i 0,.ref j 0] ⟨H,N,toks⟩ fun e S' =>
   (Lv.knownV s=none ∧ ∃ (a:Int) (A:List (Option Blk)) (nt:Nat) (tk:List Nat),e=.panic (.iface 191 (.agg [.int .i64 a]))∧S'=⟨H ++ A,nt,tk⟩∧N≤nt) ∨
   (∃ V,Lv.knownV s=some V ∧ ∃ (A C:List (Option Blk)) (t:Tail) (nt:Nat) (tk:List Nat),e=.ret (.tuple [])∧S'=⟨setH (H ++ (A ++ (heapR V ++ C))) j (.cells (kvC s (.slice (rowsO (H.length+3) (Lv.num s) (Lv.num s)) (Lv.num s) t))),nt,tk⟩∧A.length=3∧N≤nt):=by
 refine AC.run (Es_ok _ _) mix Tryz.func144 m144 rfl rfl rfl (zE rfl) ?_
 simp only [go_sem,hi,hj,zB,zD,zC,reduceIte,reduceCtorEq,zA]
 refine zCb (E:=Es _ _) n94 (known_ac s h hl [] (by simp) (fun x hx=>by cases hx) .nilS H N toks (.inl ⟨rfl,rfl⟩)) (fun v S' hR => ?_) (fun v S' hR => ?_)
 ·rcases hR with ⟨_,_,_,_,_,e,_⟩ | ⟨V,hV,A,C,t,nt,tk,e,rfl,h3,hnt⟩
  ·cases e
  ·cases e
   have hc:=zAp hj (A ++ (heapR V ++ C))
   simp only [go_sem,hc,zAd,AV.cells,AV.one,zL,zO,zJ,splice,zI,zH,Tryz.f144,zB,zD,zC,reduceIte,reduceCtorEq,zA]
   exact .inr ⟨V,hV,A,C,t,nt,tk,rfl,rfl,h3,hnt⟩
 ·rcases hR with ⟨h0,a,A,nt,tk,e,rfl,hnt⟩ | ⟨V,hV,A,C,t,nt,tk,e,rfl,h3,hnt⟩
  ·cases e
   exact .inl ⟨h0,a,A,nt,tk,rfl,rfl,hnt⟩
  ·cases e
theorem kv_frz {s:Survey} {V:Mat} {A C:List (Option Blk)} {n:Nat} (h:Sq n V) {off:Nat} (ho:A.length=off) (t:Tail):Frz (A ++ (heapR V ++ C)) (.agg (kvC s (.slice (rowsO off n n) n t))) (kA s V):=by
 refine .agg _ _ rfl fun j x y hx hy => ?_
 match j,hx,hy with
 | 0,hx,hy=>simp [kvC] at hx hy;subst hx;subst hy;exact .same _
 | 1,hx,hy=>simp [kvC] at hx hy;subst hx;subst hy;exact .same _
 | 2,hx,hy =>
  simp [kvC] at hx hy;subst hx;subst hy
  exact grid_frz h ho t
 | j+3,hx,hy=>simp [kvC] at hx
theorem zCf (s:Survey) (hl:okL s.sights.length) (fine:Bool):PC Tryz.prog 86 [surA s,.bool fine] (.pure (askedA s fine)):=by
 refine PC.of_frz (AC.run (E_ok _) mix Tryz.func86 m86 rfl rfl rfl (zE rfl) ?_) (by simp [bndL,AV.bnd]) (askedA_bnd _ _)
 unfold askedA
 simp only [go_sem,boxA,zB,zD,zC,reduceIte,reduceCtorEq,zA]
 refine cp n89 (zBg s hl) (SubL.refl _) ?_
 cases h:zAo s
 ·simp only [go_sem,zAh,qD,Tryz.f86,qG,zB,zD,zC,reduceIte,reduceCtorEq,zA]
  exact ⟨_,rfl,.same _⟩
 cases fine
 ·simp only [go_sem,zAh,qD,zV,Tryz.f86,Bool.and_false,zB,zD,zC,reduceIte,reduceCtorEq,zA]
  exact ⟨_,rfl,.same _⟩
 have hv:=zBr.1 h
 simp only [go_sem,zAh,zV,zJ,zB,zD,zC,reduceIte,reduceCtorEq,zA]
 refine cac (R:=fun e S'=>(Lv.knownV s=none∧e=.ret (.int .i64 7) ∧ ∃ (X:List (Option Blk)) (nt:Nat) (tk:List Nat),S'=⟨[some (.cells (surC s)),some (.cells [.int .i64 0,.nilS,.nilS]),some (.cells [.int .i64 0,.nilS,.nilS])] ++ X,nt,tk⟩) ∨
   (∃ V,Lv.knownV s=some V∧e=.ret (.int .i64 0) ∧ ∃ (A C:List (Option Blk)) (t:Tail) (nt:Nat) (tk:List Nat),S'=⟨some (.cells (surC s)) :: some (.cells [.int .i64 0,.nilS,.nilS]) :: some (.cells (kvC s (.slice (rowsO 7 (Lv.num s) (Lv.num s)) (Lv.num s) t))) :: some (.cells [.int .i64 0]) :: (A ++ (heapR V ++ C)),nt,tk⟩∧A.length=3)) n92 (try_ac (S:=⟨[some (.cells (surC s)),some (.cells [.int .i64 0,.nilS,.nilS]),some (.cells [.int .i64 0,.nilS,.nilS])],0,[]⟩) n144 (asked1_ac s hv.toSw (by have:=hv.many;omega) _ 0 2 rfl rfl 0 []) ?_ ?_) ?_ ?_
 ·rintro v S' (⟨_,_,_,_,_,e,_⟩ | ⟨V,hV,A,C,t,nt,tk,e,rfl,h3,hnt⟩)
  ·cases e
  ·cases e
   exact ⟨rfl,.inr ⟨V,hV,rfl,A,C,t,nt,tk,rfl,h3⟩⟩
 ·rintro v S' (⟨h0,a,A,nt,tk,e,rfl,hnt⟩ | ⟨V,hV,A,C,t,nt,tk,e,rfl,h3,hnt⟩)
  ·cases e
   exact ⟨rfl,.inl ⟨a,rfl,.inl ⟨h0,rfl,some (.cells [.int .i64 7]) :: (A ++ [some (.cells [.int .i64 a])]),nt,tk,rfl⟩⟩⟩
  ·cases e
 ·rintro v S' (⟨h0,e,X,nt,tk,rfl⟩ | ⟨V,hV,e,A,C,t,nt,tk,rfl,h3⟩)
  ·cases e
   rw [h0]
   simp only [go_sem,Tryz.f86,zB,zD,zC,reduceIte,reduceCtorEq,zA]
   exact ⟨_,rfl,.same _⟩
  ·cases e
   rw [hV]
   have hsq:Sq (Lv.num s) V:=zBk (ds:=[]) hV
   simp only [go_sem,Tryz.f86,zB,zD,zC,reduceIte,reduceCtorEq,zA]
   refine ⟨_,rfl,Frz.two ?_ (.same _)⟩
   exact kv_frz (A:=some (.cells (surC s)) :: some (.cells (kvC s (.slice (rowsO 7 (Lv.num s) (Lv.num s)) (Lv.num s) t))) :: some (.cells (kvC s (.slice (rowsO 7 (Lv.num s) (Lv.num s)) (Lv.num s) t))) :: some (.cells [.int .i64 0]) :: A) hsq (by simp [h3]) t
 ·rintro v S' (⟨h0,e,X,nt,tk,rfl⟩ | ⟨V,hV,e,A,C,t,nt,tk,rfl,h3⟩)
  ·cases e
  ·cases e
theorem joined_pc (s:Survey) {V:Mat} {n:Nat} (h:Sq n V) {i j:Nat} (hi:i<n) (hj:j<n):PC Tryz.prog 105 [kA s V,.int .i64 i,.int .i64 j] (.pure (.bool (decide (ent V i j<far)))):=by
 refine PC.of_empty (AC.run (E_ok _) mix Tryz.func105 m105 rfl rfl rfl (zE rfl) ?_) (by simp [bndL,AV.bnd]) rfl
 have ga:=zDt h hi
 have gl:=h.getD hi
 have e:=zBe h hi hj
 have xa:0≤(i:Int)∧(i:Int)<(V.length:Int):=by have:=h.1;omega
 have xb:0≤(j:Int)∧(j:Int)<(n:Int):=by omega
 simp only [go_sem,boxA,xa,xb,ga,gl,e,zAf,and_self,Tryz.f105,zB,zD,zC,reduceIte,reduceCtorEq,zA]
 rfl
theorem greatest_pc (s:Survey) {V:Mat} {n:Nat} (h:Sq n V) {i j:Nat} (hi:i<n) (hj:j<n):PC Tryz.prog 143 [kA s V,.int .i64 i,.int .i64 j] (.pure (.int .i64 (ent V i j))):=by
 refine PC.of_empty (AC.run (E_ok _) mix Tryz.func143 m143 rfl rfl rfl (zE rfl) ?_) (by simp [bndL,AV.bnd]) rfl
 have ga:=zDt h hi
 have gl:=h.getD hi
 have e:=zBe h hi hj
 have xa:0≤(i:Int)∧(i:Int)<(V.length:Int):=by have:=h.1;omega
 have xb:0≤(j:Int)∧(j:Int)<(n:Int):=by omega
 simp only [go_sem,boxA,xa,xb,ga,gl,e,zAf,and_self,Tryz.f143,zB,zD,zC,reduceIte,reduceCtorEq,zA]
theorem least_pc (s:Survey) {V:Mat} {n:Nat} (h:Sq n V) {i j:Nat} (hi:i<n) (hj:j<n):PC Tryz.prog 95 [kA s V,.int .i64 i,.int .i64 j] (.pure (.int .i64 (IntKind.i64.wrap (0 - ent V j i)))):=by
 refine PC.of_empty (AC.run (E_ok _) mix Tryz.func95 m95 rfl rfl rfl (zE rfl) ?_) (by simp [bndL,AV.bnd]) rfl
 have ga:=zDt h hj
 have gl:=h.getD hj
 have e:=zBe h hj hi
 have xa:0≤(j:Int)∧(j:Int)<(V.length:Int):=by have:=h.1;omega
 have xb:0≤(i:Int)∧(i:Int)<(n:Int):=by omega
 simp only [go_sem,boxA,xa,xb,ga,gl,e,zAf,and_self,unA,Tryz.f95,zB,zD,zC,reduceIte,reduceCtorEq,zA]
def spanA (V:Mat) (i j:Nat):AV:=.agg [.int .i64 (IntKind.i64.wrap (0 - ent V j i)),.int .i64 (ent V i j)]
theorem span_pc (s:Survey) {V:Mat} {n:Nat} (h:Sq n V) {i j:Nat} (hi:i<n) (hj:j<n):PC Tryz.prog 85 [kA s V,.int .i64 i,.int .i64 j] (.pure (spanA V i j)):=by
 refine PC.of_empty (AC.run (E_ok _) mix Tryz.func85 m85 rfl rfl rfl (zE rfl) ?_) (by simp [bndL,AV.bnd]) rfl
 have hz:buildA T 187 [(0,.func (.func 95) [] []),(1,.func (.func 143) [] [])]=some (.agg [.func (.func 95) [] [],.func (.func 143) [] []]):=rfl
 have x0:indexA T 187 (.agg [.func (.func 95) [] [],.func (.func 143) [] []]) (.int .i64 ((0:Nat):Int))=some (.func (.func 95) [] []):=rfl
 have x1:indexA T 187 (.agg [.func (.func 95) [] [],.func (.func 143) [] []]) (.int .i64 ((1:Nat):Int))=some (.func (.func 143) [] []):=rfl
 simp only [go_sem,boxA,hz,zB,zD,zC,reduceIte,reduceCtorEq,zA]
 refine zCq 2 (fun k=>[(1,.int .i64 i),(2,.int .i64 j),(3,.ref 0 0),(6,.ref 1 0),(7,.ref 2 0),(10,.agg [.func (.func 95) [] [],.func (.func 143) [] []]),(11,.int .i64 k)])
  (fun k=>⟨[some (.cells [.int .i64 s.stations,.slice (sgts s.sights) s.sights.length .unk,wS V]),some (.cells [.int .i64 0,.int .i64 0]),some (.cells (match k with | 0=>[.int .i64 0,.int .i64 0] | 1=>[.int .i64 (IntKind.i64.wrap (0 - ent V j i)),.int .i64 0] | _=>[.int .i64 (IntKind.i64.wrap (0 - ent V j i)),.int .i64 (ent V i j)]))],0,[]⟩) rfl rfl ?_
 intro k hk I hI
 match k,hk,hI with
 | 0,_,hI =>
  have h1:(((0:Nat):Int)<2):=by decide
  have h2:(0:Int)≤((0:Nat):Int)∧((0:Nat):Int)<((2:Nat):Int):=by decide
  have h3:IntKind.i64.wrap (((0:Nat):Int)+1)=(1:Nat):=by decide
  have hI:=hI (by decide)
  simp only [go_sem,l85_0,h1,decide_true,zB,zD,zC,reduceIte,reduceCtorEq,zA]
  simp only [go_sem,x0,x1,zB,zD,zC,reduceIte,reduceCtorEq,zA]
  refine cp n95 (least_pc s h hi hj) (SubL.refl _) ?_
  simp only [go_sem,h2,h3,zAf,and_self,zAd,AV.cells,AV.one,zL,zO,zJ,splice,zI,zH,zB,zD,zC,reduceIte,reduceCtorEq,zA]
  exact hI
 | 1,_,hI =>
  have h1:(((1:Nat):Int)<2):=by decide
  have h2:(0:Int)≤((1:Nat):Int)∧((1:Nat):Int)<((2:Nat):Int):=by decide
  have h3:IntKind.i64.wrap (((1:Nat):Int)+1)=(2:Nat):=by decide
  have hI:=hI (by decide)
  simp only [go_sem,l85_0,h1,decide_true,zB,zD,zC,reduceIte,reduceCtorEq,zA]
  simp only [go_sem,x0,x1,zB,zD,zC,reduceIte,reduceCtorEq,zA]
  refine cp n143 (greatest_pc s h hi hj) (SubL.refl _) ?_
  simp only [go_sem,h2,h3,zAf,and_self,zAd,AV.cells,AV.one,zL,zO,zJ,splice,zI,zH,zB,zD,zC,reduceIte,reduceCtorEq,zA]
  exact hI
 | 2,_,hI =>
  have h1:¬ (((2:Nat):Int)<2):=by decide
  have q0:(0:Int)≤0∧(0:Int)<((2:Nat):Int):=by decide
  have q1:(0:Int)≤1∧(1:Int)<((2:Nat):Int):=by decide
  have z0:Int.toNat 0=0:=rfl
  have z1:Int.toNat 1=1:=rfl
  simp only [go_sem,l85_0,h1,decide_false,q0,q1,z0,z1,Tryz.f85,zB,zD,zC,reduceIte,reduceCtorEq,zA]
  rfl
 | k+3,hk,_=>omega
set_option maxHeartbeats 1000000
def zCu (s:Survey) (i j:Int) (fine:Bool):AV:=
 if zAo s && (fine && (staB s i && staB s j)) then (match Lv.knownV s with
  | some V=>if ent V i.toNat j.toNat<far then .tuple [kA s V,.int .i64 0] else .tuple [zeroK,.int .i64 5]
  | none=>.tuple [zeroK,.int .i64 7])
 else .tuple [zeroK,.int .i64 2]
theorem betweenA_bnd (s:Survey) (i j:Int) (fine:Bool):(zCu s i j fine).bnd 0 0=true:=by
 unfold zCu
 split
 ·split
  ·split <;> simp [AV.bnd,bndL]
  ·rfl
 ·rfl
theorem zCl (s:Survey) (hl:okL s.sights.length) (i j:Int) (fine:Bool):PC Tryz.prog 84 [surA s,.int .i64 i,.int .i64 j,.bool fine] (.pure (zCu s i j fine)):=by
 refine PC.of_empty (AC.run (E_ok _) mix Tryz.func84 m84 rfl rfl rfl (zE rfl) ?_) (by simp [bndL,AV.bnd]) (betweenA_bnd _ _ _ _)
 unfold zCu
 have hno:∀ b,b=false→askedA s b=.tuple [zeroK,.int .i64 2]:=fun b e=>by subst e;unfold askedA;rw [Bool.and_false];rfl
 simp only [go_sem,boxA,zB,zD,zC,reduceIte,reduceCtorEq,zA]
 cases fine
 ·simp only [go_sem,qG,Bool.and_false,zB,zD,zC,reduceIte,reduceCtorEq,zA]
  refine qp n86 (zCf s hl false) (SubL.refl _) ?_
  rw [hno false rfl]
  simp only [go_sem,zAc,Tryz.f84,zB,zD,zC,reduceIte,reduceCtorEq,zA]
  simp
 simp only [go_sem,yA,zB,zD,zC,reduceIte,reduceCtorEq,zA]
 refine qp n142 (zCt s i) (SubL.refl _) ?_
 cases hi:staB s i
 ·simp only [go_sem,qG,Bool.and_false,zB,zD,zC,reduceIte,reduceCtorEq,zA]
  refine qp n86 (zCf s hl false) (SubL.refl _) ?_
  rw [hno false rfl]
  simp only [go_sem,zAc,Tryz.f84,zB,zD,zC,reduceIte,reduceCtorEq,zA]
  simp
 simp only [go_sem,yA,zB,zD,zC,reduceIte,reduceCtorEq,zA]
 refine qp n142 (zCt s j) (SubL.refl _) ?_
 cases hj:staB s j
 ·simp only [go_sem,Bool.and_false,zB,zD,zC,reduceIte,reduceCtorEq,zA]
  refine qp n86 (zCf s hl false) (SubL.refl _) ?_
  rw [hno false rfl]
  simp only [go_sem,zAc,Tryz.f84,zB,zD,zC,reduceIte,reduceCtorEq,zA]
  simp
 simp only [go_sem,Bool.and_true,zB,zD,zC,reduceIte,reduceCtorEq,zA]
 refine qp n86 (zCf s hl true) (SubL.refl _) ?_
 unfold askedA
 cases hs:zAo s
 ·simp only [go_sem,qG,zAc,Tryz.f84,zB,zD,zC,reduceIte,reduceCtorEq,zA]
 have hv:=zBr.1 hs
 cases hV:Lv.knownV s with
 | none=>simp only [go_sem,zJ,zAc,Tryz.f84,zB,zD,zC,reduceIte,reduceCtorEq,zA]
 | some V =>
  obtain ⟨a,rfl⟩:∃ a:Nat,i=a:=⟨i.toNat,by have:=(zBq hv.st).1 hi;omega⟩
  obtain ⟨b,rfl⟩:∃ b:Nat,j=b:=⟨j.toNat,by have:=(zBq hv.st).1 hj;omega⟩
  have ha:a<Lv.num s:=by have:=(zBq hv.st).1 hi;show a<s.stations.toNat;omega
  have hb:b<Lv.num s:=by have:=(zBq hv.st).1 hj;show b<s.stations.toNat;omega
  simp only [go_sem,zJ,zAc,kvC,zB,zD,zC,reduceIte,reduceCtorEq,zA]
  refine cp n105 (joined_pc s (zBk (ds:=[]) hV) ha hb) (SubL.refl _) ?_
  try simp only [qT]
  by_cases hf:ent V a b<far
  ·rw [if_pos hf]
   simp only [go_sem,hf,decide_true,zAh,zV,Tryz.f84,zB,zD,zC,reduceIte,reduceCtorEq,zA]
  ·rw [if_neg hf]
   simp only [go_sem,hf,decide_false,zAh,qD,Tryz.f84,zB,zD,zC,reduceIte,reduceCtorEq,zA]
@[go_sem] theorem bd28z:buildA T 28 []=some (.agg [.int .i64 0,.int .i64 0]):=rfl
def boundsA (s:Survey) (i j:Int):AV:=
 if zAo s && (staB s i && staB s j) then (match Lv.knownV s with
  | some V=>if ent V i.toNat j.toNat<far then .tuple [spanA V i.toNat j.toNat,.int .i64 0] else .tuple [.agg [.int .i64 0,.int .i64 0],.int .i64 5]
  | none=>.tuple [.agg [.int .i64 0,.int .i64 0],.int .i64 7])
 else .tuple [.agg [.int .i64 0,.int .i64 0],.int .i64 2]
theorem boundsA_bnd (s:Survey) (i j:Int):(boundsA s i j).bnd 0 0=true:=by
 unfold boundsA
 split
 ·split
  ·split <;> rfl
  ·rfl
 ·rfl
theorem Bounds_pc (s:Survey) (hl:okL s.sights.length) (i j:Int):PC Tryz.prog 25 [surA s,.int .i64 i,.int .i64 j] (.pure (boundsA s i j)):=by
 refine PC.of_empty (AC.run (E_ok _) mix Tryz.func25 m25 rfl rfl rfl (zE rfl) ?_) (by simp [bndL,AV.bnd]) (boundsA_bnd _ _ _)
 unfold boundsA
 simp only [go_sem,boxA,zB,zD,zC,reduceIte,reduceCtorEq,zA]
 refine cp n84 (zCl s hl i j true) (SubL.refl _) ?_
 unfold zCu
 cases hs:zAo s
 ·simp only [go_sem,qG,zAc,Tryz.f25,zB,zD,zC,reduceIte,reduceCtorEq,zA]
 cases hi:staB s i
 ·simp only [go_sem,qG,Bool.and_false,zAc,Tryz.f25,zB,zD,zC,reduceIte,reduceCtorEq,zA]
 cases hj:staB s j
 ·simp only [go_sem,Bool.and_false,zAc,Tryz.f25,zB,zD,zC,reduceIte,reduceCtorEq,zA]
 have hv:=zBr.1 hs
 cases hV:Lv.knownV s with
 | none=>simp only [go_sem,zJ,zAc,Tryz.f25,zB,zD,zC,reduceIte,reduceCtorEq,zA]
 | some V =>
  obtain ⟨a,rfl⟩:∃ a:Nat,i=a:=⟨i.toNat,by have:=(zBq hv.st).1 hi;omega⟩
  obtain ⟨b,rfl⟩:∃ b:Nat,j=b:=⟨j.toNat,by have:=(zBq hv.st).1 hj;omega⟩
  have ha:a<Lv.num s:=by have:=(zBq hv.st).1 hi;show a<s.stations.toNat;omega
  have hb:b<Lv.num s:=by have:=(zBq hv.st).1 hj;show b<s.stations.toNat;omega
  try simp only [qT]
  by_cases hf:ent V a b<far
  ·rw [if_pos hf,if_pos hf]
   simp only [go_sem,zJ,zAc,kvC,zB,zD,zC,reduceIte,reduceCtorEq,zA]
   refine cp n85 (span_pc s (zBk (ds:=[]) hV) ha hb) (SubL.refl _) ?_
   simp only [go_sem,spanA,Tryz.f25,zB,zD,zC,reduceIte,reduceCtorEq,zA]
  ·rw [if_neg hf,if_neg hf]
   simp only [go_sem,zJ,zAc,Tryz.f25,zB,zD,zC,reduceIte,reduceCtorEq,zA]
def baseG (V:Mat) (n j:Nat):Nat:=((List.range n).find? fun b=>decide (ent V b j<far)).getD j
theorem base_pc (s:Survey) {V:Mat} {n:Nat} (hst:s.stations=(n:Int)) (hn:n≤1000) (h:Sq n V) {j:Nat} (hj:j<n):PC Tryz.prog 87 [kA s V,.int .i64 j] (.pure (.int .i64 (baseG V n j))):=by
 refine PC.of_empty (AC.run (E_ok _) mix Tryz.func87 m87 rfl rfl rfl (zE rfl) ?_) (by simp [bndL,AV.bnd]) rfl
 simp only [go_sem,boxA,zB,zD,zC,reduceIte,reduceCtorEq,zA]
 refine zBd n (fun k => ∀ b,b<k → ¬ ent V b j<far) (fun k=>[(1,.int .i64 j),(2,.ref 0 0),(8,.int .i64 s.stations),(9,.int .i64 k)]) (fun k=>⟨[some (.cells [.int .i64 s.stations,.slice (sgts s.sights) s.sights.length .unk,wS V])],0,[]⟩) (fun b hb=>absurd hb (qO _)) rfl rfl ?_
 intro k hk hP I hI
 by_cases hlt:k<n
 ·have h1:(k:Int)<s.stations:=by omega
  have h4:IntKind.i64.wrap ((k:Int)+1)=(k+1:Nat):=wrap64 (by omega)
  simp only [go_sem,l87_0,h1,decide_true,zB,zD,zC,reduceIte,reduceCtorEq,zA]
  have hp:=joined_pc s h hlt hj
  refine cp n105 hp (SubL.refl _) ?_
  by_cases hf:ent V k j<far
  ·have hb:baseG V n j=k:=by
    unfold baseG
    have:(List.range n).find? (fun b=>decide (ent V b j<far))=some k:=by
     rw [List.find?_eq_some_iff_append]
     refine ⟨by rw [decide_eq_true hf],List.range k,(List.range (n - (k+1))).map (fun x=>k+1+x), ?_,fun b hb => ?_⟩
     ·have:n=k+1+(n - (k+1)):=by omega
      conv=>lhs;rw [this,List.range_add,yN]
      simp
     ·have:=hP b (List.mem_range.1 hb)
      simp [this]
    rw [this];rfl
   simp only [go_sem,hf,decide_true,Tryz.f87,zB,zD,zC,reduceIte,reduceCtorEq,zA]
   rw [hb]
  ·simp only [go_sem,hf,decide_false,h4,zB,zD,zC,reduceIte,reduceCtorEq,zA]
   refine hI hlt fun b hb => ?_
   by_cases e:b=k
   ·subst e;exact hf
   ·exact hP b (by omega)
 ·have h1:¬ (k:Int)<s.stations:=by omega
  have hb:baseG V n j=j:=by
   unfold baseG
   have:(List.range n).find? (fun b=>decide (ent V b j<far))=none:=by
    rw [List.find?_eq_none]
    intro b hb
    have:=hP b (by have:=List.mem_range.1 hb;omega)
    simp [this]
   rw [this];rfl
  simp only [go_sem,l87_0,h1,decide_false,Tryz.f87,zB,zD,zC,reduceIte,reduceCtorEq,zA]
  rw [hb]
end Go.Av.Lx
end
section
namespace Go.Av.Lx
open Go Go.Av Go.Av.Tb Go.Av.Fx Go.Proofs
def Own (l:List AV) (n:Nat) (V:AV) (nt:Nat) (toks:List Nat):Prop:=(V=.nilS∧l=[]∧n=0) ∨ ∃ k,V=.slice l n (.tok k)∧k∈toks∧k<nt
def tokOf:AV→Option Nat
 | .slice _ _ (.tok k)=>some k
 | _=>none
def Apart (V W:AV):Prop:=∀ k,tokOf V=some k→tokOf W≠some k
theorem Apart.symm {V W:AV} (h:Apart V W):Apart W V:=fun k h1 h2=>h k h2 h1
theorem Own.nil (nt:Nat) (toks:List Nat):Own [] 0 .nilS nt toks:=.inl ⟨rfl,rfl,rfl⟩
theorem apart_nil (W:AV):Apart .nilS W:=fun k h=>by cases h
theorem Own.cells {l:List AV} {n:Nat} {V:AV} {nt:Nat} {toks:List Nat} (h:Own l n V nt toks):V.cells=[V]∧V.one=true:=by
 rcases h with ⟨rfl,_,rfl⟩ | ⟨k,rfl,_,_⟩
 ·exact ⟨rfl,rfl⟩
 ·exact ⟨rfl,rfl⟩
theorem Own.frz {l:List AV} {n:Nat} {V:AV} {nt:Nat} {toks:List Nat} (h:Own l n V nt toks) (H:List (Option Blk)):Frz H V (.slice l n .unk):=by
 rcases h with ⟨rfl,rfl,rfl⟩ | ⟨k,rfl,_,_⟩
 ·exact .nil
 ·exact .unk _ _ _
theorem Own.sub {l:List AV} {n:Nat} {V:AV} {nt:Nat} {toks:List Nat} (h:Own l n V nt toks):Sub V (.slice l n .unk):=by
 rcases h with ⟨rfl,rfl,rfl⟩ | ⟨k,rfl,_,_⟩
 ·exact Sub.nil
 ·exact Sub.unk _ _ _
structure Grown (V V':AV) (l:List AV) (n:Nat) (nt:Nat) (toks toks':List Nat):Prop where
 own:Own l n V' (nt+1) toks'
 tok:V'=.slice l n (.tok nt)
 keep:∀ W l2 n2,Own l2 n2 W nt toks→Apart V W→Own l2 n2 W (nt+1) toks'∧Apart V' W
structure RowT (t e:TypeId) (z:Nat):Prop where
 ds:descOf T t=some (.slice e)
 te:∃ ei,T e=some ei∧ei.size=z∧ei.bytes≤1000
 z:z≠0
theorem Own.len {t e:TypeId} {z:Nat} (ht:RowT t e z) {l:List AV} {n:Nat} {V:AV} {nt:Nat} {toks:List Nat} (h:Own l n V nt toks) (S:St):zAa T S .len [t] [V]=some (.pure (.int .i64 n)):=by
 rcases h with ⟨rfl,_,rfl⟩ | ⟨k,rfl,_,_⟩
 ·simp [zAa,lenA,ht.ds]
 ·simp [zAa,lenA,ht.ds]
theorem own_grow {t e:TypeId} {z:Nat} (ht:RowT t e z) {l lx:List AV} {n nx:Nat} {V:AV} {nt:Nat} {toks:List Nat} (h:Own l n V nt toks) (hl:l.length=n * z) (hx:lx.length=nx * z) (hnx:nx≠0) (h1:lx.all AV.one=true) (hlim:n+nx≤1000000) (b:St) (tx:Tail) :
  ∃ kill V' toks',appendA T b t V (.slice lx nx tx)=some (.tok kill fun j=>.slice (l ++ lx) (n+nx) (.tok j))∧(∀ k,kill=some k→k∈toks)∧toks'=nt :: killTok toks kill∧V'=.slice (l ++ lx) (n+nx) (.tok nt)∧Grown V V' (l ++ lx) (n+nx) nt toks toks':=by
 obtain ⟨ei,he,hz,hb⟩:=ht.te
 have hheld:heldA b ei.size (.slice lx nx tx)=some (lx,nx):=by
  unfold heldA
  simp [hz,hx]
 have hbb:(n+nx) * ei.bytes≤1099511627776:=Nat.le_trans (Nat.mul_le_mul hlim hb) (by decide)
 rcases h with ⟨rfl,rfl,rfl⟩ | ⟨k,rfl,hk,hkn⟩
 ·refine ⟨none,_,_, ?_,(fun k h=>by cases h),rfl,rfl,⟨.inr ⟨nt,rfl,zP,Nat.lt_succ_self _⟩,rfl,fun W l2 n2 hW _ => ?_⟩⟩
  ·unfold appendA
   have hz':ei.size≠0:=by rw [hz];exact ht.z
   rw [ht.ds]
   simp only [he]
   rw [if_neg hz',hheld]
   simp only [if_neg hnx,h1,zV,zT,if_false]
   rw [if_pos ⟨by simpa using hbb,by omega⟩]
   simp
  ·rcases hW with ⟨rfl,rfl,rfl⟩ | ⟨j,rfl,hj,hjn⟩
   ·exact ⟨Own.nil _ _,(apart_nil _).symm⟩
   ·exact ⟨.inr ⟨j,rfl,zS _ hj,by omega⟩,fun q h1 h2=>by simp [tokOf] at h1 h2;omega⟩
 ·refine ⟨some k,_,_,zCx ht.ds he (by rw [hz];exact ht.z) hheld hnx h1 hbb (by omega) (by rw [hz];exact hl),(fun j h=>by cases h;exact hk),rfl,rfl,⟨.inr ⟨nt,rfl,zP,Nat.lt_succ_self _⟩,rfl,fun W l2 n2 hW ha => ?_⟩⟩
  rcases hW with ⟨rfl,rfl,rfl⟩ | ⟨j,rfl,hj,hjn⟩
  ·exact ⟨Own.nil _ _,(apart_nil _).symm⟩
  ·have hne:j≠k:=fun e=>ha k rfl (by simp [tokOf,e])
   exact ⟨.inr ⟨j,rfl,zS _ (List.mem_filter.2 ⟨hj,by simpa using hne⟩),by omega⟩,fun q h1 h2=>by simp [tokOf] at h1 h2;omega⟩
theorem zDw {t e:TypeId} {z:Nat} (ht:RowT t e z) {l lx:List AV} {n nx:Nat} {V:AV} {nt:Nat} {toks:List Nat} (h:Own l n V nt toks) (hl:l.length=n * z) (hx:lx.length=nx * z) (hnx:nx≠0) (h1:lx.all AV.one=true) (hlim:n+nx≤1000000) {b:St} {tx:Tail} {H:List (Option Blk)} {K:AV→St→Prop} {hK:Hold K}
  (next:∀ V' toks',Grown V V' (l ++ lx) (n+nx) nt toks toks'→K V' ⟨H,nt+1,toks'⟩):sr K hK (appendA T b t V (.slice lx nx tx)) ⟨H,nt,toks⟩:=by
 obtain ⟨kill,V',toks',e,hk,rfl,rfl,hg⟩:=own_grow ht h hl hx hnx h1 hlim b tx
 rw [e]
 cases kill with
 | none=>rw [sr_tok];exact next _ _ hg
 | some k=>rw [zBu];exact ⟨hk k rfl,next _ _ hg⟩
theorem own_sq {t e:TypeId} {z:Nat} (ht:RowT t e z) {l lx:List AV} {n nx:Nat} {V:AV} {nt:Nat} {toks:List Nat} (h:Own l n V nt toks) (hl:l.length=n * z) (hx:lx.length=nx * z) (hnx:nx≠0) (h1:lx.all AV.one=true) (hlim:n+nx≤1000000) {b:St} {tx:Tail} {H:List (Option Blk)} {K:AV→St→Prop} {hK:Hold K}
  (next:∀ V' toks',Grown V V' (l ++ lx) (n+nx) nt toks toks'→K V' ⟨H,nt+1,toks'⟩):sq K hK (appendA T b t V (.slice lx nx tx)) ⟨H,nt,toks⟩:=by
 obtain ⟨kill,V',toks',e,hk,rfl,rfl,hg⟩:=own_grow ht h hl hx hnx h1 hlim b tx
 rw [e]
 cases kill with
 | none=>rw [sq_tok];exact next _ _ hg
 | some k=>rw [sq_tok_some];exact ⟨hk k rfl,next _ _ hg⟩
theorem rowInts:RowT 32 3 1:=⟨rfl,⟨_,rfl,rfl,by decide⟩,by decide⟩
theorem rowRows:RowT 35 32 1:=⟨rfl,⟨_,rfl,rfl,by decide⟩,by decide⟩
theorem zDx:RowT 22 85 4:=⟨rfl,⟨_,rfl,rfl,by decide⟩,by decide⟩
theorem rowChoices:RowT 153 155 2:=⟨rfl,⟨_,rfl,rfl,by decide⟩,by decide⟩
end Go.Av.Lx
end
section
set_option maxHeartbeats 1000000
namespace Go.Av.Lx
open Go Go.Av Go.Av.Tb Go.Av.Fx Go.Proofs
open Go.Lv (Sight Survey Sw Sv SightOk)
open Go.Fw (Sq ent Bd Mat)
def lowAt (V:Mat) (n j:Nat):Int:=IntKind.i64.wrap (0 - ent V j (baseG V n j))
def highAt (V:Mat) (n j:Nat):Int:=ent V (baseG V n j) j
theorem ints_app (l l':List Int):ints l ++ ints l'=ints (l ++ l'):=by simp [ints]
theorem baseG_lt (V:Mat) {n j:Nat} (hj:j<n):baseG V n j<n:=by
 unfold baseG
 cases h:(List.range n).find? fun b=>decide (ent V b j<far) with
 | none=>exact hj
 | some b=>exact List.mem_range.1 (List.mem_of_find?_eq_some h)
def zFa (s:Survey):AV:=
 if zAo s=true then (match Lv.knownV s with
  | some V=>.tuple [sl ((List.range (Lv.num s)).map (lowAt V (Lv.num s))),sl ((List.range (Lv.num s)).map (highAt V (Lv.num s))),.int .i64 0]
  | none=>.tuple [.nilS,.nilS,.int .i64 7])
 else .tuple [.nilS,.nilS,.int .i64 2]
theorem heightsA_bnd (s:Survey):(zFa s).bnd 0 0=true:=by
 unfold zFa
 split
 ·split
  ·simp [AV.bnd,bndL]
  ·rfl
 ·rfl
theorem frz_three {h:List (Option Blk)} {a b c a' b' c':AV} (h1:Frz h a a') (h2:Frz h b b') (h3:Frz h c c'):Frz h (.tuple [a,b,c]) (.tuple [a',b',c']):=
 .tuple _ _ rfl fun j x y hx hy=>by
  match j,hx,hy with
  | 0,hx,hy=>simp at hx hy;subst hx;subst hy;exact h1
  | 1,hx,hy=>simp at hx hy;subst hx;subst hy;exact h2
  | 2,hx,hy=>simp at hx hy;subst hx;subst hy;exact h3
  | j+3,hx,hy=>simp at hx
theorem Heights_pc (s:Survey) (hl:okL s.sights.length):PC Tryz.prog 26 [surA s] (.pure (zFa s)):=by
 refine PC.of_frz (AC.run (E_ok _) mix Tryz.func26 m26 rfl rfl rfl (zE rfl) ?_) (by simp [bndL,AV.bnd]) (heightsA_bnd s)
 unfold zFa
 simp only [go_sem,boxA,zB,zD,zC,reduceIte,reduceCtorEq,zA]
 refine cp n86 (zCf s hl true) (SubL.refl _) ?_
 unfold askedA
 cases hs:zAo s
 ·simp only [go_sem,qG,zAc,Tryz.f26,zB,zD,zC,reduceIte,reduceCtorEq,zA]
  exact ⟨_,rfl,.same _⟩
 have hv:=zBr.1 hs
 cases hV:Lv.knownV s with
 | none =>
  simp only [go_sem,zJ,zAc,Tryz.f26,zB,zD,zC,reduceIte,reduceCtorEq,zA]
  exact ⟨_,rfl,.same _⟩
 | some V =>
  have hsq:Sq (Lv.num s) V:=zBk (ds:=[]) hV
  have hst:s.stations=(Lv.num s:Int):=by have:=hv.st;show _=((s.stations.toNat:Nat):Int);omega
  have hn8:Lv.num s≤8:=hv.toSw.num8
  generalize Lv.num s=n at *
  simp only [go_sem,zJ,zAc,kvC,zB,zD,zC,reduceIte,reduceCtorEq,zA]
  refine zAt (fun m ts' S' => ∃ k V1 V2 nt tk Hh,k≤n∧m=n - k∧ts'=[(5,.ref 1 0),(7,V1),(8,V2),(20,.int .i64 s.stations),(21,.int .i64 k)]∧S'=⟨Hh,nt,tk⟩∧cellsAt Hh 1=some (kvC s (wS V))∧Own (ints ((List.range k).map (lowAt V n))) k V1 nt tk∧Own (ints ((List.range k).map (highAt V n))) k V2 nt tk∧Apart V1 V2) n ⟨0,.nilS,.nilS,0,[],_,qH _,rfl,rfl,rfl,rfl,Own.nil _ _,Own.nil _ _,apart_nil _⟩ ?_
  rintro m ts' S' ⟨k,V1,V2,nt,tk,Hh,hk,rfl,rfl,rfl,hc,o1,o2,ap⟩
  by_cases hlt:k<n
  ·have h1:(k:Int)<s.stations:=by omega
   have h4:IntKind.i64.wrap ((k:Int)+1)=(k+1:Nat):=wrap64 (by omega)
   have c1:=zAg Hh
   have c2:=fun x B=>zAs Hh x B
   have ca:=zAp hc
   simp only [go_sem,l26_0,h1,decide_true,hc,kvC,zB,zD,zC,reduceIte,reduceCtorEq,zA]
   refine qp n87 (base_pc s hst (by omega) hsq hlt) (SubL.refl _) ?_
   simp only [go_sem,zB,zD,zC,reduceIte,reduceCtorEq,zA]
   refine qp n85 (span_pc s hsq (baseG_lt V hlt) hlt) (SubL.refl _) ?_
   simp only [go_sem,spanA,c1,c2,zAd,AV.cells,AV.one,zL,zO,zJ,splice,zI,zH,zB,zD,zC,reduceIte,reduceCtorEq,zA]
   simp only [go_sem,zAa,zB,zD,zC,reduceIte,reduceCtorEq,zA]
   refine own_sq (lx:=[.int .i64 (IntKind.i64.wrap (0 - ent V k (baseG V n k)))]) rowInts o1 (by simp) rfl (by decide) rfl (by omega) fun V1' tk1 g1 => ?_
   obtain ⟨o2',ap'⟩:=g1.keep _ _ _ o2 ap
   simp only [go_sem,c1,zAa,zB,zD,zC,reduceIte,reduceCtorEq,zA]
   refine zDw (lx:=[.int .i64 (ent V (baseG V n k) k)]) rowInts o2' (by simp) rfl (by decide) rfl (by omega) fun V2' tk2 g2 => ?_
   obtain ⟨o1',ap''⟩:=g2.keep _ _ _ g1.own ap'.symm
   simp only [go_sem,h4,zB,zD,zC,reduceIte,reduceCtorEq,zA]
   refine zAi (n - (k+1)) (by omega) ⟨k+1,V1',V2',nt+1+1,tk2,_,hlt,rfl,rfl,rfl,ca _, ?_, ?_,ap''.symm⟩
   ·have:=o1'
    rw [show [AV.int .i64 (IntKind.i64.wrap (0 - ent V k (baseG V n k)))]=ints [lowAt V n k] from rfl,ints_app] at this
    rw [yN,qR]
    exact this
   ·have:=g2.own
    rw [show [AV.int .i64 (ent V (baseG V n k) k)]=ints [highAt V n k] from rfl,ints_app] at this
    rw [yN,qR]
    exact this
  ·have h1:¬ (k:Int)<s.stations:=by omega
   have e:k=n:=by omega
   subst e
   simp only [go_sem,l26_0,h1,decide_false,Tryz.f26,zB,zD,zC,reduceIte,reduceCtorEq,zA]
   refine ⟨_,rfl,frz_three ?_ ?_ (.same _)⟩
   ·simpa [sl] using o1.frz Hh
   ·simpa [sl] using o2.frz Hh
set_option maxHeartbeats 1000000
def bools (l:List Bool):List AV:=l.map .bool
abbrev bl (l:List Bool):AV:=.slice (bools l) l.length .unk
def mo (x:Int):Int:=if x<far then x else 0
def jo (x:Int):Bool:=decide (x<far)
def rM (V:Mat):Mat:=V.map (·.map mo)
def rJ (V:Mat):List (List Bool):=V.map (·.map jo)
abbrev rA (V:Mat):AV:=.agg [wS (rM V),.slice ((rJ V).map bl) (rJ V).length .unk]
theorem setH_at:∀ {h:List (Option Blk)} {i:Nat} {B:Blk},i<h.length→setH h i B=h.set i (some B)
 | [],i,B,h=>by simp at h
 | x :: h,0,B,_=>rfl
 | x :: h,i+1,B,hi=>by
  show x :: setH h i B=x :: h.set i (some B)
  rw [setH_at (by simpa using hi)]
end Go.Av.Lx
end
section
namespace Go.Lv
open Go.Fw Go.Wk
theorem walk_ends {cs cs':List Bd} (h:∀ c∈cs,∃ d∈cs',d.a=c.a∧d.b=c.b):∀ {l:List Bd} {i j:Nat},(∀ x∈l,x∈cs)→Pth id i l j → ∃ m:List Bd,(∀ x∈m,x∈cs')∧Pth id i m j
 | [],i,j,_,hp=>⟨[],fun x hx=>(by cases hx),hp⟩
 | c :: l,i,j,hin,hp=>by
  obtain ⟨e,hp⟩:=hp
  obtain ⟨d,d1,d2,d3⟩:=h c (hin c zP)
  obtain ⟨m,m1,m2⟩:=walk_ends h (fun x hx=>hin x (zS _ hx)) hp
  refine ⟨d :: m,fun x hx => ?_,⟨d2.trans e, ?_⟩⟩
  ·rcases List.mem_cons.1 hx with rfl | hx
   ·exact d1
   ·exact m1 x hx
  ·show Pth id d.b m j
   rw [d3];exact m2
variable {n:Nat} {cs cs':List Bd} {V V':Mat}
theorem Clos.join (h:Clos n cs V) (h':Clos n cs' V') (hl:∀ c∈cs,∃ d∈cs',d.a=c.a∧d.b=c.b) {i j:Nat} (hi:i<n) (hj:j<n) (hf:ent V i j<far):ent V' i j<far:=by
 obtain ⟨l,p1,p2,p3⟩:=h.real i j hi hj hf
 obtain ⟨m,m1,m2⟩:=walk_ends hl p1 p2
 exact (h'.walk m i j m1 hi m2).2.1
theorem Clos.same (h:Clos n cs V) (h':Clos n cs' V') (hl:∀ c,c∈cs↔c∈cs') {i j:Nat} (hi:i<n) (hj:j<n):(ent V i j<far↔ent V' i j<far)∧(ent V i j<far→ent V i j=ent V' i j):=by
 have a:=fun hf=>h.le h' (fun c hc=>(hl c).1 hc) hi hj hf
 have b:=fun hf=>h'.le h (fun c hc=>(hl c).2 hc) hi hj hf
 refine ⟨⟨fun hf=>(a hf).2,fun hf=>(b hf).2⟩,fun hf => ?_⟩
 have a1:=a hf
 have b1:=b a1.2
 omega
end Go.Lv
end
