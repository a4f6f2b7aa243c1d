/- Part 28 of the proof. -/
import Derived.Test.YtclmbbofpaecaaaGreatDoorVn26
import Derived.Test.YtclmbbofpaecaaaGreatDoorVn27
import Derived.Test.YtclmbbofpaecaaaGreatDoorVn23
import Derived.ProofKit
import Derived.Laws.Rows
import Derived.Test.YtclmbbofpaecaaaGreatDoorVn25
import Derived.Test.YtclmbbofpaecaaaGreatDoorVn14
set_option linter.all false
set_option linter.unusedVariables false
set_option linter.unusedSimpArgs false
set_option linter.unusedSectionVars false
open Bool renaming and_self → zJ, not_true → zV, not_false → qF
open List renaming getElem?_eq_getElem → zF, getD_eq_getElem?_getD → zG, set_cons_succ → zH, set_cons_zero → zI, all_cons → zL, all_nil → zO, mem_cons_self → zP, length_cons → zW, getElem?_append_right → zY, getElem_mem → qB, length_append → qC, length_nil → qE, append_assoc → qN, map_append → qS, cons_append → qX, nil_append → yB
open Nat renaming reduceLeDiff → zA, reduceEqDiff → zB, reduceAdd → zC, reduceBEq → zD, le_of_ble_eq_true → zE, le_refl → zM, zero_le → qG
section
set_option maxRecDepth 100000
set_option maxHeartbeats 4000000
namespace Go.Av.Lx
open Go Go.Av Go.Av.Tb Go.Av.Fx Go.Proofs
open Go.Lv (Sight Survey Sw Sv SightOk withS)
def cellsS:Array Value:=#[.int .i64 0,.int .i64 1,.int .i64 10,.int .i64 1,.int .i64 1,.int .i64 2,.int .i64 (-4),.int .i64 2,.int .i64 2,.int .i64 3,.int .i64 7,.int .i64 1,.int .i64 0,.int .i64 3,.int .i64 15,.int .i64 2]
theorem heap_old (w:World) (A B:Obj):((w.alloc A).alloc B).heap[w.heap.size]? = some A:=by
 show ((w.heap.push A).push B)[w.heap.size]? = some A
 rw [Array.getElem?_push,if_neg (by simp),Array.getElem?_push,if_pos rfl]
theorem S_calls (w:World):Calls Tryz.prog 81 #[] w fun e w'=>e=.returned (.agg #[.int .i64 4,.slice (some ⟨w.heap.size+1,0,none⟩) 4 4]) ∧
  w'=(w.alloc (.cells #[.int .i64 4,.slice (some ⟨w.heap.size+1,0,none⟩) 4 4] 24)).alloc (.cells cellsS 85):=by
 go_enter Tryz.func81,Tryz.ntmps81
 go_wp2
 refine ⟨rfl,_,results_cell_row (fr:=(0,0)) rfl _ _ w.heap.size 24 _ _ rfl ?_ Tryz.underlying24 rfl (by kernel_rfl),rfl,rfl⟩
 exact heap_old _ _ _
theorem cellsS_rel (c:Cx):LRel c (sgts surS.sights) cellsS.toList:=by
 show LRel c [.int .i64 0,.int .i64 1,.int .i64 10,.int .i64 1,.int .i64 1,.int .i64 2,.int .i64 (-4),.int .i64 2,.int .i64 2,.int .i64 3,.int .i64 7,.int .i64 1,.int .i64 0,.int .i64 3,.int .i64 15,.int .i64 2] [.int .i64 0,.int .i64 1,.int .i64 10,.int .i64 1,.int .i64 1,.int .i64 2,.int .i64 (-4),.int .i64 2,.int .i64 2,.int .i64 3,.int .i64 7,.int .i64 1,.int .i64 0,.int .i64 3,.int .i64 15,.int .i64 2]
 repeat (first | exact LRel.nil _ | refine LRel.cons (.int _ _) ?_)
theorem S_ac (S:St):AC Tryz.prog 81 [] S fun e S'=>e=.ret (.agg [.int .i64 4,.sref S.heap.length 0 4 4])∧S'=⟨S.heap ++ [some (.cells (sgts surS.sights))],S.nt,S.toks⟩:=by
 intro c w vs hs hl
 have hv:vs=[]:=List.length_eq_zero_iff.1 hl.1.symm
 subst hv
 refine (S_calls w).mono fun e w' ⟨he,hw⟩ => ?_
 subst he;subst hw
 have h1:=hs.alloc (.cells #[.int .i64 4,.slice (some ⟨w.heap.size+1,0,none⟩) 4 4] 24)
 have hsz:(w.alloc (.cells #[.int .i64 4,.slice (some ⟨w.heap.size+1,0,none⟩) 4 4] 24)).heap.size=w.heap.size+1:=by simp
 have hp:Post c S (.alloc (.cells (sgts surS.sights)) (fun i=>.agg [.int .i64 4,.sref i 0 4 4])) (.agg #[.int .i64 4,.slice (some ⟨w.heap.size+1,0,none⟩) 4 4]) _:=
  Post.newCells h1 85 (cellsS_rel c) (fun c' i hc hm=>VRel.mk_agg (LRel.cons (.int _ _) (LRel.cons (.sref i 0 4 4 _ 4 (by rw [hsz] at hm;exact hm) (zM _)) (LRel.nil _))))
 obtain ⟨c',g1,g2,g3⟩:=Post.app h1 hp
 exact ⟨_,_,c',g1,⟨rfl,rfl⟩,g3,g2⟩
theorem T_pc:PC Tryz.prog 82 [] (.pure (surA surT)):=by
 refine PC.of_frz (AC.run (E_ok 8) mix Tryz.func82 m82 rfl rfl rfl (zE rfl) ?_) rfl (by simp [bndL,AV.bnd])
 simp only [go_sem,zB,zD,zC,reduceIte,reduceCtorEq,zA]
 refine cac n81 (S_ac _) (fun v S' h => ?_) (fun v S' h=>nomatch h.1)
 obtain ⟨e,rfl⟩:=h
 cases e
 have i3:0≤(3:Int)∧(3:Int)<((4:Nat):Int):=by decide
 have hL:sgts surS.sights=[.int .i64 0,.int .i64 1,.int .i64 10,.int .i64 1,.int .i64 1,.int .i64 2,.int .i64 (-4),.int .i64 2,.int .i64 2,.int .i64 3,.int .i64 7,.int .i64 1,.int .i64 0,.int .i64 3,.int .i64 15,.int .i64 2]:=rfl
 rw [hL]
 simp only [go_sem,i3,Int.reduceToNat,zAd,AV.cells,AV.one,zL,zO,zJ,splice,zI,zH,and_self,zW,qE,Nat.reduceMul,zC,zA,Tryz.f82,zB,zD,zC,reduceIte,reduceCtorEq,zA]
 exact ⟨_,rfl,zEy (.same _) (.row 1 0 4 4 4 (sgts surT.sights) rfl (by rw [zBf];decide) (zM _))⟩
theorem U_pc:PC Tryz.prog 83 [] (.pure (surA surU)):=by
 refine PC.of_empty (AC.run (E_ok 4) mix Tryz.func83 m83 rfl rfl rfl (zE rfl) ?_) rfl (by simp [bndL,AV.bnd])
 simp only [go_sem,zB,zD,zC,reduceIte,reduceCtorEq,zA]
 refine cp n82 T_pc (SubL.refl _) ?_
 have hb:buildA T 85 [(0,.int .i64 0),(1,.int .i64 1),(2,.int .i64 10)]=some (.agg (sgtC ⟨0,1,10,0⟩)):=rfl
 simp only [go_sem,hb,zB,zD,zC,reduceIte,reduceCtorEq,zA]
 refine cp n55 (With_pc surT (by decide) ⟨0,1,10,0⟩) (SubL.refl _) ?_
 rw [withU]
 simp only [go_sem,zAd,AV.cells,AV.one,zL,zO,zJ,splice,zI,zH,and_self,zW,qE,Tryz.f83,zB,zD,zC,reduceIte,reduceCtorEq,zA]
end Go.Av.Lx
end
section
set_option maxHeartbeats 4000000
namespace Go.Av.Lx
open Go Go.Av Go.Av.Tb Go.Av.Fx Go.Proofs
open Go.Lv (Sight Survey Sw Sv SightOk Stp bgS enS stpAt)
@[go_sem] theorem it_T (E:Env) (S:St) (l:Nat) (Y:List AV→St→(AV→St→Prop)→Prop) (C:Cx→Prop):(E.iter S l Y C).T=E.T:=rfl
@[go_sem] theorem it_P (E:Env) (S:St) (l:Nat) (Y:List AV→St→(AV→St→Prop)→Prop) (C:Cx→Prop):(E.iter S l Y C).P=E.P:=rfl
@[go_sem] theorem ir_T (E:Env) (l:Nat) (S:St):(E.inRound l S).T=E.T:=rfl
@[go_sem] theorem ir_P (E:Env) (l:Nat) (S:St):(E.inRound l S).P=E.P:=rfl
abbrev stepsF (s:Survey) (fr:Int):AV:=.func (.func 186) [] [.eptr (surC s) 0,.eptr [.int .i64 fr] 0]
theorem steps_pc (s:Survey) (fr:Int):PC Tryz.prog 173 [surA s,.int .i64 fr] (.pure (stepsF s fr)):=by
 refine PC.of_frz (AC.run (E_ok _) mix Tryz.func173 m173 rfl rfl rfl (zE rfl) ?_) (by simp [bndL,AV.bnd]) (by simp [bndL,AV.bnd])
 simp only [go_sem,boxA,Tryz.f173,zB,zD,zC,reduceIte,reduceCtorEq,zA]
 refine ⟨_,rfl,.func _ _ _ rfl fun j x y hx hy => ?_⟩
 match j with
 | 0=>cases hx;cases hy;exact .ptr 0 _ rfl
 | 1=>cases hx;cases hy;exact .ptr 1 _ rfl
 | j+2=>simp at hx
def Frm (s:Survey) (fr:Int) (k:Nat):Prop:=fr<0∨bgS s (stpAt k)=fr
theorem steps1_draw {S0:St} {lp:Nat} {Y:List AV→St→(AV→St→Prop)→Prop} {C:Cx→Prop} (s:Survey) (fr:Int) (x:Stp) (hx:InS s x) (t4 t10 t11 t14 t15:AV) (H:List (Option Blk)) (nt:Nat) (tk:List Nat) (Q:AQ) (R:AV→St→Prop)
  (h1:(fr<0∨bgS s x=fr)→Y [.agg (stpC x)] ⟨H ++ [some (.cells (stpC x))],nt,tk⟩ R ∧ ∀ v S',R v S' → ∃ b,v=.bool b∧Q .normal [(0,.func (.yield lp) [] []),(1,.eptr (surC s) 0),(2,.eptr [.int .i64 fr] 0),(10,t10),(11,t11),(4,t4),(14,t14),(15,t15),(35,.bool (!b))] S')
  (h2:¬ (fr<0∨bgS s x=fr)→Q .normal [(0,.func (.yield lp) [] []),(1,.eptr (surC s) 0),(2,.eptr [.int .i64 fr] 0),(10,t10),(11,t11),(4,t4),(14,t14),(15,t15),(35,.bool false)] ⟨H ++ [some (.cells (stpC x))],nt,tk⟩) :
  WC ((E 38).iter S0 lp Y C) (.draw [0,1,2,4,10,11,14,15,35] 12 [] r186_7) Q [(0,.func (.yield lp) [] []),(1,.eptr (surC s) 0),(2,.eptr [.int .i64 fr] 0),(10,t10),(11,t11),(4,t4),(14,t14),(15,t15),(7,.ref H.length 0)] ⟨H ++ [some (.cells (stpC x))],nt,tk⟩:=by
 have c1:=fun q=>zAf H q
 by_cases hf:fr<0
 ·obtain ⟨g1,g2⟩:=h1 (.inl hf)
  simp only [go_sem,hf,decide_true,c1,zB,zD,zC,reduceIte,reduceCtorEq,zA]
  refine sy_yield ⟨rfl,g1⟩ fun v S' hr => ?_
  obtain ⟨b,rfl,hq⟩:=g2 v S' hr
  simp only [go_sem,zAg,zB,zD,zC,reduceIte,reduceCtorEq,zA]
  exact hq
 ·simp only [go_sem,hf,decide_false,c1,zB,zD,zC,reduceIte,reduceCtorEq,zA]
  refine zBo (E:=(E 38).iter S0 lp Y C) n137 (begins_pc s x hx) (SubL.refl _) ?_
  by_cases hb:bgS s x=fr
  ·obtain ⟨g1,g2⟩:=h1 (.inr hb)
   simp only [go_sem,hb,decide_true,c1,zB,zD,zC,reduceIte,reduceCtorEq,zA]
   refine sy_yield ⟨rfl,g1⟩ fun v S' hr => ?_
   obtain ⟨b,rfl,hq⟩:=g2 v S' hr
   simp only [go_sem,zAg,zB,zD,zC,reduceIte,reduceCtorEq,zA]
   exact hq
  ·have hq:=h2 fun h=>h.elim hf hb
   simp only [go_sem,hb,decide_false,c1,zB,zD,zC,reduceIte,reduceCtorEq,zA]
   exact hq
theorem stpAt_two (k j:Nat) (hj:j<2):stpAt (2 * k+j)=⟨(k:Nat),decide (j=1)⟩:=by
 unfold stpAt
 rw [show (2 * k+j) / 2=k by omega,show (2 * k+j) % 2=j by omega]
theorem steps1_it (s:Survey) (hm:s.sights.length≤100) (fr:Int) (J:Nat→St→Prop) (Stop:St→Prop) (Y:List AV→St→(AV→St→Prop)→Prop)
  (hJ:∀ k H nt tk B,J k ⟨H,nt,tk⟩→J k ⟨H ++ [some B],nt,tk⟩)
  (hY:∀ k S,k<2 * s.sights.length→Frm s fr k→J k S→Y [.agg (stpC (stpAt k))] S (fun v S'=>(v=.bool true∧J (k+1) S')∨(v=.bool false∧Stop S')))
  (hskip:∀ k S,k<2 * s.sights.length → ¬ Frm s fr k→J k S→J (k+1) S) (S:St) (h0:J 0 S) :
  IterC Tryz.prog 186 [.eptr (surC s) 0,.eptr [.int .i64 fr] 0] S Y (fun S'=>J (2 * s.sights.length) S'∨Stop S'):=by
 refine IterC.run (E_ok 38) mix Tryz.func186 m186 rfl (zE rfl) fun lp C => ?_
 simp only [go_sem,zAa,zB,zD,zC,reduceIte,reduceCtorEq,zA]
 refine zAu (fun n ts' S' => ∃ k,k≤s.sights.length∧n=s.sights.length - k∧ts'=[(0,.func (.yield lp) [] []),(1,.eptr (surC s) 0),(2,.eptr [.int .i64 fr] 0),(10,.int .i64 s.sights.length),(11,.int .i64 (k:Nat))]∧J (2 * k) S') s.sights.length ⟨0,qG _,rfl,rfl,h0⟩ ?_
 rintro n ts' S' ⟨k,hk,rfl,rfl,hJk⟩
 by_cases hkl:k<s.sights.length
 rotate_left
 ·have k1:¬ (k:Int)<s.sights.length:=by omega
  have ek:k=s.sights.length:=by omega
  subst ek
  simp only [go_sem,l186_0,k1,decide_false,Tryz.f186,zB,zD,zC,reduceIte,reduceCtorEq,zA]
  exact ⟨⟨_,rfl⟩,.inl hJk⟩
 have k1:(k:Int)<s.sights.length:=by omega
 have k4:IntKind.i64.wrap ((k:Int)+1)=(k+1:Nat):=wrap64 (by omega)
 have hbd:buildA T 241 [(0,.bool false),(1,.bool true)]=some (.agg [.bool false,.bool true]):=rfl
 simp only [go_sem,l186_0,k1,decide_true,hbd,zB,zD,zC,reduceIte,reduceCtorEq,zA]
 refine zAu (fun n ts' S' => ∃ j,j≤2∧n=2 - j∧ts'=[(0,.func (.yield lp) [] []),(1,.eptr (surC s) 0),(2,.eptr [.int .i64 fr] 0),(10,.int .i64 s.sights.length),(11,.int .i64 (k:Nat)),(4,.int .i64 (k:Nat)),(14,.agg [.bool false,.bool true]),(15,.int .i64 (j:Nat))]∧J (2 * k+j) S') 2 ⟨0,qG _,rfl,rfl,hJk⟩ ?_
 rintro n ts' S' ⟨j,hj,rfl,rfl,hJj⟩
 obtain ⟨H,nt,tk⟩:=S'
 have c1:=fun q=>zAf H q
 have c2:=fun x B=>zAs H x B
 by_cases hj2:j<2
 rotate_left
 ·have j1:¬ (j:Int)<2:=by omega
  have ej:j=2:=by omega
  subst ej
  simp only [go_sem,l186_1,j1,decide_false,k4,zB,zD,zC,reduceIte,reduceCtorEq,zA]
  exact zAj (s.sights.length - (k+1)) (by omega) ⟨k+1,hkl,rfl,rfl,by rw [show 2 * (k+1)=2 * k+2 by omega];exact hJj⟩
 have j1:(j:Int)<2:=by omega
 have j4:IntKind.i64.wrap ((j:Int)+1)=(j+1:Nat):=wrap64 (by omega)
 have hix:indexA T 241 (.agg [.bool false,.bool true]) (.int .i64 (j:Nat))=some (.bool (decide (j=1))):=by
  match j,hj2 with
  | 0,_=>rfl
  | 1,_=>rfl
 have hi2:2 * k+j<2 * s.sights.length:=by omega
 have hin:InS s (stpAt (2 * k+j)):=Lv.stpAt_in hi2
 have hst:=stpAt_two k j hj2
 have hstc:stpC (stpAt (2 * k+j))=[.int .i64 (k:Nat),.bool (decide (j=1))]:=by rw [hst]
 obtain ⟨D,hD⟩:∃ D,MC.draw [0,1,2,4,10,11,14,15,35] 12 [] r186_7=D:=⟨_,rfl⟩
 unfold l186_1
 rw [hD]
 simp only [go_sem,j1,decide_true,hix,c1,c2,zAd,AV.cells,AV.one,zL,zO,zJ,splice,zI,zH,and_self,zB,zD,zC,reduceIte,reduceCtorEq,zA]
 subst hD
 rw [← hstc]
 refine steps1_draw s fr (stpAt (2 * k+j)) hin _ _ _ _ _ H nt tk _ (fun v S'=>(v=.bool true∧J (2 * k+j+1) S')∨(v=.bool false∧Stop S')) (fun hc=>⟨hY _ _ hi2 hc (hJ _ _ _ _ _ hJj),fun v S' hr => ?_⟩) (fun hc => ?_)
 ·rcases hr with ⟨rfl,hr⟩ | ⟨rfl,hr⟩
  ·refine ⟨true,rfl, ?_⟩
   simp only [go_sem,zV,j4,zB,zD,zC,reduceIte,reduceCtorEq,zA]
   exact zAj (2 - (j+1)) (by omega) ⟨j+1,hj2,rfl,rfl,hr⟩
  ·refine ⟨false,rfl, ?_⟩
   simp only [go_sem,qF,Tryz.f186,zB,zD,zC,reduceIte,reduceCtorEq,zA]
   exact ⟨⟨_,rfl⟩,.inr hr⟩
 ·have hr:=hskip _ _ hi2 hc (hJ _ _ _ _ (.cells (stpC (stpAt (2 * k+j)))) hJj)
  simp only [go_sem,j4,zB,zD,zC,reduceIte,reduceCtorEq,zA]
  exact zAj (2 - (j+1)) (by omega) ⟨j+1,hj2,rfl,rfl,hr⟩
end Go.Av.Lx
end
section
set_option maxHeartbeats 4000000
namespace Go.Av.Lx
open Go Go.Av Go.Av.Tb Go.Av.Fx Go.Proofs
open Go.Lv (Stp)
theorem eqStp_sn {l:List AV} {n:Nat} {t:Tail} (h:0<n):binA T .eql 117 (.slice l n t) .nilS=some (.bool false):=by
 have:binA T .eql 117 (.slice l n t) .nilS=(if 0<n then some false else none).map .bool:=rfl
 rw [this,if_pos h];rfl
@[go_sem] theorem bs_stp0:zAe T 117 0 []=some (.slice [] 0 .exact):=rfl
theorem cloneP_pc (l:List Stp) (hl:l.length≤100000) (hne:0<l.length):PC Tryz.prog 174 [stpsA l] (.tok none fun j=>.slice (stpsC l) l.length (.tok j)):=by
 refine PC.of_tok (AC.run (E_ok _) mix Tryz.func174 m174 rfl rfl rfl (zE rfl) ?_) (by simp [bndL,AV.bnd]) (by simp)
 have e:=eqStp_sn (l:=stpsC l) (t:=.unk) hne
 simp only [go_sem,e,zAa,zB,zD,zC,reduceIte,reduceCtorEq,zA]
 rw [zCs (e:=127) (ei:=ti127) (lx:=stpsC l) (nx:=l.length) rfl rfl (by decide) (by simp [heldA,ti127]) (by omega) (stps_one l) (by simp [ti127];omega) (by omega) (by simp [ti127])]
 simp only [go_sem,yB,Nat.zero_add,Tryz.f174,zB,zD,zC,reduceIte,reduceCtorEq,zA]
 exact ⟨0,rfl,zP⟩
end Go.Av.Lx
end
section
set_option maxHeartbeats 4000000
namespace Go.Av.Lx
open Go Go.Av Go.Av.Tb Go.Av.Fx Go.Proofs
open Go.Lv (Sight Survey Sw Sv SightOk Stp bgS enS stpAt stpD stepB)
theorem enS_nn {s:Survey} (h:Sw s) {x:Stp} (hx:InS s x):0≤enS s x:=by
 have hk:x.sight.toNat<s.sights.length:=by have:=hx.1;have:=hx.2;omega
 have e:Lv.sightAt s x.sight=s.sights[x.sight.toNat]:=by
  unfold Lv.sightAt
  rw [zG,zF hk];rfl
 have hs:=h.sights _ (qB hk)
 unfold enS
 rw [e]
 split
 ·exact hs.frm.1
 ·exact hs.to.1
abbrev rgF:AV:=.func (.func 172) [] [.ref 0 0,.ref 1 0,.ref 5 0,.ref 4 0,.ref 6 0]
abbrev rgH (s:Survey) (long:Nat) (out:AV) (ks:List Int):List (Option Blk):=[some (.cells (surC s)),some (.cells [.int .i64 long]),some (.cells [.nilS]),some (.map (metA ks)),some (.cells [.map 3]),some (.cells [out]),some (.cells [rgF])]
def rgJ (s:Survey) (long:Nat) (out:AV) (ks:List Int) (ex:List (Option Blk)) (a b c d:Option Blk) (ex2:List (Option Blk)):List (Option Blk):=rgH s long out ks ++ (ex ++ a :: b :: c :: d :: ex2)
theorem at_at (P:List (Option Blk)) (d:Option Blk) (q:List (Option Blk)) {i:Nat} (hi:i=P.length):(P ++ d :: q)[i]? = some d:=by
 subst hi
 rw [zY (zM _),Nat.sub_self];rfl
theorem set_at (P:List (Option Blk)) (d:Option Blk) (q:List (Option Blk)) (B:Blk) {i:Nat} (hi:i=P.length):setH (P ++ d :: q) i B=P ++ some B :: q:=by
 subst hi
 have:=zDf P (d :: q) 0 B
 rw [Nat.add_zero] at this
 rw [this];rfl
theorem clr_at (P:List (Option Blk)) (d:Option Blk) (q:List (Option Blk)) {i:Nat} (hi:i=P.length):(P ++ d :: q).set i none=P ++ none :: q:=by
 subst hi
 rw [List.set_append_right _ _ (zM _),Nat.sub_self];rfl
section
variable {s:Survey} {long:Nat} {out:AV} {ks:List Int} {ex ex2:List (Option Blk)} {a b c d:Option Blk}
theorem rgJ_a:rgJ s long out ks ex a b c d ex2=(rgH s long out ks ++ ex) ++ a :: b :: c :: d :: ex2:=by simp [rgJ]
theorem rgJ_b:rgJ s long out ks ex a b c d ex2=(rgH s long out ks ++ ex ++ [a]) ++ b :: c :: d :: ex2:=by simp [rgJ]
theorem rgJ_c:rgJ s long out ks ex a b c d ex2=(rgH s long out ks ++ ex ++ [a,b]) ++ c :: d :: ex2:=by simp [rgJ]
theorem rgJ_d:rgJ s long out ks ex a b c d ex2=(rgH s long out ks ++ ex ++ [a,b,c]) ++ d :: ex2:=by simp [rgJ]
theorem rgJ_0:cellsAt (rgJ s long out ks ex a b c d ex2) 0=some (surC s):=rfl
theorem rgJ_6:cellsAt (rgJ s long out ks ex a b c d ex2) 6=some [rgF]:=rfl
theorem rgJ_7 {l:List AV}:cellsAt (rgJ s long out ks ex (some (.cells l)) b c d ex2) (ex.length+7)=some l:=by
 unfold cellsAt;rw [rgJ_a,at_at _ _ _ (by simp)]
theorem rgJ_8 {l:List AV}:cellsAt (rgJ s long out ks ex a (some (.cells l)) c d ex2) (ex.length+8)=some l:=by
 unfold cellsAt;rw [rgJ_b,at_at _ _ _ (by simp)]
theorem rgJ_9 {l:List AV}:cellsAt (rgJ s long out ks ex a b (some (.cells l)) d ex2) (ex.length+9)=some l:=by
 unfold cellsAt;rw [rgJ_c,at_at _ _ _ (by simp)]
theorem rgJ_10:(rgJ s long out ks ex a b c d ex2)[ex.length+10]? = some d:=by
 rw [rgJ_d,at_at _ _ _ (by simp)]
theorem rgJ_set9 (B:Blk):setH (rgJ s long out ks ex a b c d ex2) (ex.length+9) B=rgJ s long out ks ex a b (some B) d ex2:=by
 rw [rgJ_c,set_at _ _ _ _ (by simp),rgJ_c]
theorem rgJ_set10 (B:Blk):setH (rgJ s long out ks ex a b c d ex2) (ex.length+10) B=rgJ s long out ks ex a b c (some B) ex2:=by
 rw [rgJ_d,set_at _ _ _ _ (by simp),rgJ_d]
theorem rgJ_clr:(rgJ s long out ks ex a b c d ex2).set (ex.length+10) none=rgJ s long out ks ex a b c none ex2:=by
 rw [rgJ_d,clr_at _ _ _ (by simp),rgJ_d]
theorem rgJ_snoc (x:List (Option Blk)):rgJ s long out ks ex a b c d ex2 ++ x=rgJ s long out ks ex a b c d (ex2 ++ x):=by simp [rgJ]
theorem rgJ_map (ks':List Int):setH (rgJ s long out ks ex a b c d ex2) 3 (.map (metA ks'))=rgJ s long out ks' ex a b c d ex2:=rfl
theorem rgJ_3:(rgJ s long out ks ex a b c d ex2)[3]? = some (some (.map (metA ks))):=rfl
theorem rgJ_4:cellsAt (rgJ s long out ks ex a b c d ex2) 4=some [.map 3]:=rfl
end
theorem find_last (n:Int):∀ (ks:List Int) (i:Nat),ks.contains n=false→findA (.int .i64) (.int .i64 n) (metA (ks ++ [n])) i=some (some (i+ks.length,.bool true))
 | [],i,_=>by simp [metA,findA,eqKey]
 | k :: ks,i,h=>by
  rw [List.contains_cons,Bool.or_eq_false_iff] at h
  have e1:findA (.int .i64) (.int .i64 n) (metA (k :: ks ++ [n])) i=findA (.int .i64) (.int .i64 n) (metA (ks ++ [n])) (i+1):=by
   simp only [metA,qX,List.map_cons,findA,eqKey,if_true,h.1]
  rw [e1,find_last n ks (i+1) h.2,zW,show i+1+ks.length=i+(ks.length+1) by omega]
theorem mapDel {S:St} {i:Nat} {ks:List Int} {n:Int} (h:S.heap[i]? = some (some (.map (metA (ks ++ [n]))))) (hn:ks.contains n=false):deleteA T S 181 (.map i) (.int .i64 n)=some (.write i (.map (metA ks)) (.tuple [])):=by
 have d1:descOf T 181=some (.map 3 4):=rfl
 have d2:descOf T 3=some (.int .i64):=rfl
 simp only [deleteA,d1,d2,h,isKey,if_true]
 rw [find_last n ks 0 hn,Nat.zero_add]
 have:(metA (ks ++ [n])).eraseIdx ks.length=metA ks:=by
  unfold metA
  rw [qS,List.eraseIdx_append_of_length_le (by simp)]
  simp
 simp only [this]
theorem ring1_draw (s:Survey) (l:List Stp) (h1:0<l.length) (hll:l.length≤50) (hin:Lv.StepsIn s l) (S S0:St) (i7:Nat) (c0:cellsAt S.heap 0=some (surC s)) (c7:cellsAt S.heap i7=some [stpsA l]) (t3 t4 t5 t6 t8 t9:AV) (Q:AQ)
  (hQ:Q .normal [(2,.ref 0 0),(3,t3),(4,t4),(5,t5),(6,t6),(7,.ref i7 0),(8,t8),(9,t9),(10,.int .i64 (enS s (l.getD (l.length - 1) stpD))),(11,.int .i64 (bgS s (l.getD 0 stpD)))] S) :
  WC (Es 66 S0) (.draw [2,3,4,5,6,7,8,9,10,11] 12 [] r172_1) Q [(2,.ref 0 0),(3,t3),(4,t4),(5,t5),(6,t6),(7,.ref i7 0),(8,t8),(9,t9)] S:=by
 have hk:l.length - 1<l.length:=by omega
 have w:IntKind.i64.wrap ((l.length:Int) - 1)=(l.length - 1:Nat):=by rw [wrap64 (by omega)];omega
 have k2:0≤((l.length - 1:Nat):Int)∧((l.length - 1:Nat):Int)<l.length:=by omega
 have k3:(l.length - 1) * 2+2≤(stpsC l).length:=by rw [zEu];omega
 have k5:=stps_at l (l.length - 1) hk
 have z2:0≤(0:Int)∧(0:Int)<l.length:=by omega
 have z3:0+2≤(stpsC l).length:=by rw [zEu];omega
 have z5:(stpsC l).take 2=stpC l[0]:=by have:=stps_at l 0 h1;simpa using this
 have e1:=stp_getD hk
 have e2:=stp_getD h1
 rw [e1,e2] at hQ
 simp only [go_sem,c0,c7,zAa,w,k2,k3,k5,zAi,and_self,zB,zD,zC,reduceIte,reduceCtorEq,zA]
 refine zBo (E:=Es 66 S0) n136 (ends_pc s l[l.length - 1] (hin _ (qB hk))) (SubL.refl _) ?_
 simp only [go_sem,c0,c7,z2,Int.toNat_zero,Nat.zero_mul,z3,List.drop_zero,z5,and_self,zB,zD,zC,reduceIte,reduceCtorEq,zA]
 refine zCa (E:=Es 66 S0) n137 (begins_pc s l[0] (hin _ (qB h1))) (SubL.refl _) ?_
 simp only [go_sem,zB,zD,zC,reduceIte,reduceCtorEq,zA]
 exact hQ
theorem ring1_draw2 (s:Survey) (hs:Sw s) (l:List Stp) (h1:0<l.length) (hll:l.length≤50) (x:Stp) (hx:InS s x) (tot tot':Int) (hw:IntKind.i64.wrap (tot+upSt s x)=tot') (S S0 S1:St) (lp i7 i8 i12:Nat)
  (c0:cellsAt S.heap 0=some (surC s)) (c6:cellsAt S.heap 6=some [rgF]) (c7:cellsAt S.heap i7=some [stpsA l]) (c8:cellsAt S.heap i8=some [.int .i64 tot]) (c12:cellsAt S.heap i12=some (stpC x)) (t9:AV) (Q:AQ) (R:AEnd→St→Prop)
  (h:∀ nt tk,AC Tryz.prog 172 [stpsA (l ++ [x]),.int .i64 tot',.ref 0 0,.ref 1 0,.ref 5 0,.ref 4 0,.ref 6 0] ⟨S.heap,nt,tk⟩ R)
  (hr:∀ v S',R (.ret v) S'→Q .normal [(9,t9),(63,v)] S') (hp:∀ v S',¬ R (.panic v) S') :
  WC ((Es 66 S0).inRound lp S1) (.draw [9,63] 11 [] r172_10) Q [(2,.ref 0 0),(6,.ref 6 0),(7,.ref i7 0),(8,.ref i8 0),(9,t9),(12,.ref i12 0)] S:=by
 have bs:zAe T 117 1 [(0,.agg (stpC x))]=some (.slice (stpC x) 1 .exact):=rfl
 have eN:appendA T S 117 (.slice (stpsC l) l.length (.tok S.nt)) (.slice (stpC x) 1 .exact)=some (.tok (some S.nt) fun j=>.slice (stpsC l ++ stpC x) (l.length+1) (.tok j)):=
  zCs (e:=127) (ei:=ti127) (lx:=stpC x) (nx:=1) (tl:=.tok S.nt) rfl rfl (by decide) rfl (by decide) rfl (by simp [ti127];omega) (by omega) (by simp [ti127])
 have es:stpsC l ++ stpC x=stpsC (l ++ [x]):=stps_snoc l x
 have el:l.length+1=(l ++ [x]).length:=by simp
 rw [es,el] at eN
 simp only [go_sem,c0,c6,c7,c8,c12,zB,zD,zC,reduceIte,reduceCtorEq,zA]
 refine callq_tok (E:=(Es 66 S0).inRound lp S1) n174 (cloneP_pc l (by omega) h1) (SubL.refl _) ?_
 simp only [go_sem,c0,c6,c7,c8,c12,bs,zAa,eN,zB,zD,zC,reduceIte,reduceCtorEq,zA]
 refine ⟨zP, ?_⟩
 refine zBo (E:=(Es 66 S0).inRound lp S1) n135 (rises_pc s hs x hx) (SubL.refl _) ?_
 simp only [go_sem,hw,zB,zD,zC,reduceIte,reduceCtorEq,zA]
 refine ⟨n172,_,_,SubL.cons (Sub.unk _ _ _) (SubL.refl _),h _ _,fun v S' hh => ?_,fun v S' hh=>(hp _ _ hh).elim⟩
 have:=hr v S' hh
 simp only [go_sem,zB,zD,zC,reduceIte,reduceCtorEq,zA]
 exact this
end Go.Av.Lx
end
section
set_option maxHeartbeats 8000000
namespace Go.Av.Lx
open Go Go.Av Go.Av.Tb Go.Av.Fx Go.Proofs
open Go.Lv (Sight Survey Sw Sv SightOk Stp bgS enS stpAt stpD stepB ringL firstI)
def rgK (s:Survey) (long:Nat) (out:AV) (ks:List Int) (ex:List (Option Blk)) (a b c:Option Blk):List (Option Blk):=rgH s long out ks ++ (ex ++ [a,b,c])
section
variable {s:Survey} {long:Nat} {out:AV} {ks:List Int} {ex:List (Option Blk)} {a b c:Option Blk}
theorem rgK_a:rgK s long out ks ex a b c=(rgH s long out ks ++ ex) ++ a :: [b,c]:=by simp [rgK]
theorem rgK_b:rgK s long out ks ex a b c=(rgH s long out ks ++ ex ++ [a]) ++ b :: [c]:=by simp [rgK]
theorem rgK_c:rgK s long out ks ex a b c=(rgH s long out ks ++ ex ++ [a,b]) ++ c :: []:=by simp [rgK]
theorem rgK_0:cellsAt (rgK s long out ks ex a b c) 0=some (surC s):=rfl
theorem rgK_1:cellsAt (rgK s long out ks ex a b c) 1=some [.int .i64 long]:=rfl
theorem rgK_4:cellsAt (rgK s long out ks ex a b c) 4=some [.map 3]:=rfl
theorem rgK_5:cellsAt (rgK s long out ks ex a b c) 5=some [out]:=rfl
theorem rgK_7 {l:List AV}:cellsAt (rgK s long out ks ex (some (.cells l)) b c) (ex.length+7)=some l:=by
 unfold cellsAt;rw [rgK_a,at_at _ _ _ (by simp)]
theorem rgK_8 {l:List AV}:cellsAt (rgK s long out ks ex a (some (.cells l)) c) (ex.length+8)=some l:=by
 unfold cellsAt;rw [rgK_b,at_at _ _ _ (by simp)]
theorem rgK_9 {l:List AV}:cellsAt (rgK s long out ks ex a b (some (.cells l))) (ex.length+9)=some l:=by
 unfold cellsAt;rw [rgK_c,at_at _ _ _ (by simp)]
theorem zFa (B:Blk):setH (rgK s long out ks ex a b c) (ex.length+9) B=rgK s long out ks ex a b (some B):=by
 rw [rgK_c,set_at _ _ _ _ (by simp),rgK_c]
theorem rgK_set5 (v:AV):setH (rgK s long out ks ex a b c) 5 (.cells [v])=rgK s long v ks ex a b c:=rfl
theorem rgK_map (ks':List Int):setH (rgK s long out ks ex a b c) 3 (.map (metA ks'))=rgK s long out ks' ex a b c:=rfl
theorem rgK_len:(rgK s long out ks ex a b c).length=ex.length+10:=by simp [rgK]
theorem rgK_loop (d:Option Blk):rgK s long out ks ex a b c ++ [d]=rgJ s long out ks ex a b c d []:=by simp [rgK,rgJ]
end
def RgEnd (s:Survey) (long:Nat) (ks:List Int) (ex:List (Option Blk)) (o:Option (List Stp)) (e:AEnd) (S':St):Prop:=match o with
 | some r=>e=.ret (.bool true) ∧ ∃ ks' ex' nt' tk',S'=⟨rgH s long (stpsA r) ks' ++ (ex ++ ex'),nt',tk'⟩
 | none=>e=.ret (.bool false) ∧ ∃ out' ex' nt' tk',S'=⟨rgH s long out' ks ++ (ex ++ ex'),nt',tk'⟩
theorem RgEnd.noPanic {s:Survey} {long:Nat} {ks:List Int} {ex:List (Option Blk)} {o:Option (List Stp)} {v:AV} {S':St}:¬ RgEnd s long ks ex o (.panic v) S':=by
 unfold RgEnd
 cases o
 ·exact fun h=>nomatch h.1
 ·exact fun h=>nomatch h.1
def RgRun (s:Survey) (long:Nat) (ks1:List Int) (ex:List (Option Blk)) (a b:Option Blk) (F:Nat→Option (List Stp)) (N:Nat) (r:Loop) (k:Nat) (S':St):Prop:=
 firstI F 0 N=firstI F k (N - k) ∧ ∃ out' ex2 nt' tk',S'=⟨rgJ s long out' ks1 ex a b (some (.cells [.bool false])) (some (.loop r)) ex2,nt',tk'⟩
def RgStop (s:Survey) (long:Nat) (ex:List (Option Blk)) (a b:Option Blk) (F:Nat→Option (List Stp)) (N:Nat) (r:Loop) (S':St):Prop:=
 ∃ r' ks' ex2 nt' tk',firstI F 0 N=some r'∧S'=⟨rgJ s long (stpsA r') ks' ex a b (some (.cells [.bool true])) (some (.loop (stopL r))) ex2,nt',tk'⟩
theorem ring1_ac (s:Survey) (hv:Sv s) (long:Nat) (hlong:long≤40):∀ (m:Nat) (w:List Stp) (y:Stp) (ks:List Int) (out:AV) (ex:List (Option Blk)) (nt:Nat) (tk:List Nat),w.length+1+m=long→Lv.StepsIn s (w ++ [y])→(∀ i:Int,i∈ks↔i∈w.map (enS s)) →
  AC Tryz.prog 172 [stpsA (w ++ [y]),.int .i64 (Wk.tot (stepB s) (w ++ [y])),.ref 0 0,.ref 1 0,.ref 5 0,.ref 4 0,.ref 6 0] ⟨rgH s long out ks ++ ex,nt,tk⟩ (RgEnd s long ks ex (ringL s m w y)):=by
 intro m
 induction m using Nat.strongRecOn with
 | _ m ih =>
 intro w y ks out ex nt tk hlen hin hks
 have hs:=hv.toSw
 have hmany:=hv.many
 have hll:(w ++ [y]).length=w.length+1:=by simp
 have hy:InS s y:=hin y (by simp)
 have htb:=tot_bd hs hin
 rw [hll] at htb
 obtain ⟨H0,hH0⟩:∃ H0,rgH s long out ks ++ ex=H0:=⟨_,rfl⟩
 rw [hH0]
 refine AC.run (Es_ok 66 ⟨H0,nt,tk⟩) mix Tryz.func172 m172 rfl rfl rfl (zE rfl) ?_
 have l7:H0.length=ex.length+7:=by rw [← hH0];simp
 have l8:(H0 ++ [some (Blk.cells [stpsA (w ++ [y])])]).length=ex.length+8:=by rw [qC,l7];rfl
 have l9:(H0 ++ [some (Blk.cells [stpsA (w ++ [y])]),some (Blk.cells [.int .i64 (Wk.tot (stepB s) (w ++ [y]))])]).length=ex.length+9:=by rw [qC,l7];rfl
 have hK:H0 ++ [some (Blk.cells [stpsA (w ++ [y])]),some (Blk.cells [.int .i64 (Wk.tot (stepB s) (w ++ [y]))]),some (Blk.cells [.bool false])]=rgK s long out ks ex (some (Blk.cells [stpsA (w ++ [y])])) (some (Blk.cells [.int .i64 (Wk.tot (stepB s) (w ++ [y]))])) (some (Blk.cells [.bool false])):=by rw [← hH0];simp [rgK]
 obtain ⟨D1,hD1⟩:∃ D,MC.draw [2,3,4,5,6,7,8,9,10,11] 12 [] r172_1=D:=⟨_,rfl⟩
 unfold c172
 rw [hD1]
 simp only [go_sem,boxA,l7,l8,l9,hK,qN,qX,yB,zB,zD,zC,reduceIte,reduceCtorEq,zA]
 subst hD1
 refine ring1_draw s (w ++ [y]) (by omega) (by omega) hin _ _ (ex.length+7) rgK_0 rgK_7 _ _ _ _ _ _ _ ?_
 rw [Lv.last_getD]
 obtain ⟨g0,hg0⟩:∃ g0,bgS s ((w ++ [y]).getD 0 stpD)=g0:=⟨_,rfl⟩
 obtain ⟨tot,htt⟩:∃ tot,Wk.tot (stepB s) (w ++ [y])=tot:=⟨_,rfl⟩
 rw [hg0,htt]
 rw [htt] at htb
 cases m with
 | zero =>
  have h1:(((w ++ [y]).length:Nat):Int)=(long:Int):=by omega
  have hL:ringL s 0 w y=if enS s y=g0∧tot<0 then some (w ++ [y]) else none:=by rw [← hg0,← htt];rfl
  rw [hL]
  simp only [go_sem,rgK_7,rgK_1,zAa,h1,decide_true,zB,zD,zC,reduceIte,reduceCtorEq,zA]
  simp only [go_sem,rgK_5,rgK_7,rgK_set5,zAd,AV.cells,AV.one,zL,zO,zJ,splice,zI,zH,and_self,zB,zD,zC,reduceIte,reduceCtorEq,zA]
  by_cases he:enS s y=g0
  ·by_cases ht:tot<0
   ·rw [if_pos ⟨he,ht⟩]
    simp only [go_sem,he,ht,decide_true,rgK_8,rgK_9,zFa,zAd,AV.cells,AV.one,zL,zO,zJ,splice,zI,zH,and_self,Tryz.f172,zB,zD,zC,reduceIte,reduceCtorEq,zA]
    exact ⟨rfl,ks,_,_,_,rfl⟩
   ·rw [if_neg fun h=>ht h.2]
    simp only [go_sem,he,ht,decide_true,decide_false,rgK_8,rgK_9,zFa,zAd,AV.cells,AV.one,zL,zO,zJ,splice,zI,zH,and_self,Tryz.f172,zB,zD,zC,reduceIte,reduceCtorEq,zA]
    exact ⟨rfl,_,_,_,_,rfl⟩
  ·rw [if_neg fun h=>he h.1]
   simp only [go_sem,he,decide_false,rgK_8,rgK_9,zFa,zAd,AV.cells,AV.one,zL,zO,zJ,splice,zI,zH,and_self,Tryz.f172,zB,zD,zC,reduceIte,reduceCtorEq,zA]
   exact ⟨rfl,_,_,_,_,rfl⟩
 | succ m =>
  have h1:¬ ((((w ++ [y]).length:Nat):Int)=(long:Int)):=by omega
  simp only [go_sem,rgK_7,rgK_1,zAa,h1,decide_false,zB,zD,zC,reduceIte,reduceCtorEq,zA]
  obtain ⟨F,hF⟩:∃ F:Nat→Option (List Stp),F=fun i=>if bgS s (stpAt i)=enS s y then ringL s m (w ++ [y]) (stpAt i) else none:=⟨_,rfl⟩
  have hL:ringL s (m+1) w y=if enS s y=g0∨enS s y∈w.map (enS s) then none else firstI F 0 (2 * s.sights.length):=by rw [hF,← hg0];rfl
  rw [hL]
  by_cases he:enS s y=g0
  ·rw [if_pos (.inl he)]
   simp only [go_sem,he,decide_true,rgK_9,zFa,zAd,AV.cells,AV.one,zL,zO,zJ,splice,zI,zH,and_self,Tryz.f172,zB,zD,zC,reduceIte,reduceCtorEq,zA]
   exact ⟨rfl,_,_,_,_,rfl⟩
  have hget:lookupA T ⟨rgK s long out ks ex (some (Blk.cells [stpsA (w ++ [y])])) (some (Blk.cells [.int .i64 tot])) (some (Blk.cells [.bool false])),nt,tk⟩ 181 (.map 3) (.int .i64 (enS s y)) false=some (.bool (ks.contains (enS s y))):=mapGet rfl _
  cases hc:ks.contains (enS s y)
  rotate_left
  ·have hm:enS s y∈w.map (enS s):=(hks _).1 (List.contains_iff_mem.1 hc)
   rw [if_pos (.inr hm)]
   rw [hc] at hget
   simp only [go_sem,he,decide_false,rgK_4,hget,rgK_9,zFa,zAd,AV.cells,AV.one,zL,zO,zJ,splice,zI,zH,and_self,Tryz.f172,zB,zD,zC,reduceIte,reduceCtorEq,zA]
   exact ⟨rfl,_,_,_,_,rfl⟩
  have hnm:¬ (enS s y=g0∨enS s y∈w.map (enS s)):=fun h=>h.elim he fun hm=>by
   have:=List.contains_iff_mem.2 ((hks _).2 hm)
   rw [hc] at this;cases this
  rw [if_neg hnm]
  rw [hc] at hget
  have hput:zAz T ⟨rgK s long out ks ex (some (Blk.cells [stpsA (w ++ [y])])) (some (Blk.cells [.int .i64 tot])) (some (Blk.cells [.bool false])),nt,tk⟩ 181 (.map 3) (.int .i64 (enS s y)) (.bool true)=some (.write 3 (.map (metA (ks ++ [enS s y]))) .undef):=by
   have:=mapUpd (S:=⟨rgK s long out ks ex (some (Blk.cells [stpsA (w ++ [y])])) (some (Blk.cells [.int .i64 tot])) (some (Blk.cells [.bool false])),nt,tk⟩) (i:=3) (ks:=ks) rfl (enS s y)
   unfold addK at this
   rw [hc,if_neg (by decide)] at this
   exact this
  simp only [go_sem,he,decide_false,rgK_4,hget,zB,zD,zC,reduceIte,reduceCtorEq,zA]
  simp only [go_sem,rgK_4,hput,zAd,rgK_map,rgK_0,zB,zD,zC,reduceIte,reduceCtorEq,zA]
  refine zCa (E:=Es 66 ⟨H0,nt,tk⟩) n173 (steps_pc s (enS s y)) (SubL.refl _) ?_
  simp only [go_sem,zB,zD,zC,reduceIte,reduceCtorEq,zA]
  have hnn:=enS_nn hs hy
  refine .inr ⟨fun _=>trivial,rfl,rfl,_,_,rfl,n186,fun r S'=>RgRun s long (ks ++ [enS s y]) ex (some (Blk.cells [stpsA (w ++ [y])])) (some (Blk.cells [.int .i64 tot])) F (2 * s.sights.length) r (2 * s.sights.length) S'∨RgStop s long ex (some (Blk.cells [stpsA (w ++ [y])])) (some (Blk.cells [.int .i64 tot])) F (2 * s.sights.length) r S',fun r hr hp => ?_⟩
  have hi:(⟨rgK s long out (ks ++ [enS s y]) ex (some (Blk.cells [stpsA (w ++ [y])])) (some (Blk.cells [.int .i64 tot])) (some (Blk.cells [.bool false])),nt,tk⟩:St).heap.length=ex.length+10:=rgK_len
  rw [hi]
  have hstart:St.withLoop ⟨rgK s long out (ks ++ [enS s y]) ex (some (Blk.cells [stpsA (w ++ [y])])) (some (Blk.cells [.int .i64 tot])) (some (Blk.cells [.bool false])),nt,tk⟩ r=⟨rgJ s long out (ks ++ [enS s y]) ex (some (Blk.cells [stpsA (w ++ [y])])) (some (Blk.cells [.int .i64 tot])) (some (Blk.cells [.bool false])) (some (.loop r)) [],nt,tk⟩:=by
   show (⟨_ ++ _,_,_⟩:St)=_
   rw [rgK_loop]
  rw [hstart]
  refine ⟨steps1_it s (by omega) (enS s y) (RgRun s long (ks ++ [enS s y]) ex (some (Blk.cells [stpsA (w ++ [y])])) (some (Blk.cells [.int .i64 tot])) F (2 * s.sights.length) r) (RgStop s long ex (some (Blk.cells [stpsA (w ++ [y])])) (some (Blk.cells [.int .i64 tot])) F (2 * s.sights.length) r) _ ?_ ?_ ?_ _ ⟨rfl,out,[],nt,tk,rfl⟩, ?_⟩
  ·rintro k H nt1 tk1 B ⟨e1,out',ex2,nt',tk',e2⟩
   injection e2 with e3 e4 e5
   subst e3
   exact ⟨e1,out',ex2 ++ [some B],nt1,tk1,by rw [rgJ_snoc]⟩
  ·rintro k S1 hk hf ⟨hfi,out',ex2,nt',tk',rfl⟩
   refine ⟨rfl,rgJ_10,fun lp => ?_⟩
   have hbg:bgS s (stpAt k)=enS s y:=hf.resolve_left (by omega)
   have eF:F k=ringL s m (w ++ [y]) (stpAt k):=by rw [hF];exact if_pos hbg
   have hx:InS s (stpAt k):=Lv.stpAt_in hk
   obtain ⟨q,hq⟩:∃ q,2 * s.sights.length - k=q+1:=⟨2 * s.sights.length - k - 1,by omega⟩
   rw [hq,zBx,eF] at hfi
   have hin2:Lv.StepsIn s ((w ++ [y]) ++ [stpAt k]):=fun z hz=>by
    rcases List.mem_append.1 hz with hz | hz
    ·exact hin z hz
    ·rw [List.mem_singleton.1 hz];exact hx
   have htot:Wk.tot (stepB s) ((w ++ [y]) ++ [stpAt k])=tot+upSt s (stpAt k):=by
    rw [Wk.tot_app,htt]
    show _+((stepB s (stpAt k)).m+0)=_
    rw [Int.add_zero];rfl
   have hb2:=tot_bd hs hin2
   have hl2:((w ++ [y]) ++ [stpAt k]).length=w.length+2:=by simp
   rw [hl2] at hb2
   have hw:IntKind.i64.wrap (tot+upSt s (stpAt k))=Wk.tot (stepB s) ((w ++ [y]) ++ [stpAt k]):=by rw [← htot];exact wrap64 (by omega)
   generalize hX:stpAt k=x at *
   have c2:=fun z B=>zAs (rgJ s long out' (ks ++ [enS s y]) ex (some (Blk.cells [stpsA (w ++ [y])])) (some (Blk.cells [.int .i64 tot])) (some (Blk.cells [.bool false])) (some (.loop r)) ex2) z B
   have c1:=fun z=>zAf (rgJ s long out' (ks ++ [enS s y]) ex (some (Blk.cells [stpsA (w ++ [y])])) (some (Blk.cells [.int .i64 tot])) (some (Blk.cells [.bool false])) (some (.loop r)) ex2) z
   simp only [go_sem,a172_0,zipTS,c1,c2,zAd,AV.cells,AV.one,zL,zO,zJ,splice,zI,zH,and_self,zB,zD,zC,reduceIte,reduceCtorEq,zA]
   refine ⟨by rw [rgJ_snoc];exact rgJ_10, ?_⟩
   have hput2:setH (rgJ s long out' (ks ++ [enS s y]) ex (some (Blk.cells [stpsA (w ++ [y])])) (some (Blk.cells [.int .i64 tot])) (some (Blk.cells [.bool false])) (some (.loop r)) ex2 ++ [some (Blk.cells (stpC x))]) (ex.length+10) (.loop (busyL r))=rgJ s long out' (ks ++ [enS s y]) ex (some (Blk.cells [stpsA (w ++ [y])])) (some (Blk.cells [.int .i64 tot])) (some (Blk.cells [.bool false])) (some (.loop (busyL r))) (ex2 ++ [some (Blk.cells (stpC x))]):=by
    rw [rgJ_snoc,rgJ_set10]
   rw [hput2]
   have c12:cellsAt (rgJ s long out' (ks ++ [enS s y]) ex (some (Blk.cells [stpsA (w ++ [y])])) (some (Blk.cells [.int .i64 tot])) (some (Blk.cells [.bool false])) (some (.loop (busyL r))) (ex2 ++ [some (Blk.cells (stpC x))])) (rgJ s long out' (ks ++ [enS s y]) ex (some (Blk.cells [stpsA (w ++ [y])])) (some (Blk.cells [.int .i64 tot])) (some (Blk.cells [.bool false])) (some (.loop r)) ex2).length=some (stpC x):=by
    rw [← rgJ_snoc,show (rgJ s long out' (ks ++ [enS s y]) ex (some (Blk.cells [stpsA (w ++ [y])])) (some (Blk.cells [.int .i64 tot])) (some (Blk.cells [.bool false])) (some (.loop r)) ex2).length=(rgJ s long out' (ks ++ [enS s y]) ex (some (Blk.cells [stpsA (w ++ [y])])) (some (Blk.cells [.int .i64 tot])) (some (Blk.cells [.bool false])) (some (.loop (busyL r))) ex2).length by simp [rgJ]]
    exact zAf _ _
   unfold b172_0
   obtain ⟨D,hD⟩:∃ D,MC.draw [9,63] 11 [] r172_10=D:=⟨_,rfl⟩
   rw [hD]
   simp only [go_sem,zB,zD,zC,reduceIte,reduceCtorEq,zA]
   subst hD
   refine ring1_draw2 s hs (w ++ [y]) (by omega) (by omega) x hx tot _ hw _ _ _ lp (ex.length+7) (ex.length+8) _ rgJ_0 rgJ_6 rgJ_7 rgJ_8 c12 _ _ (RgEnd s long (ks ++ [enS s y]) (ex ++ some (Blk.cells [stpsA (w ++ [y])]) :: some (Blk.cells [.int .i64 tot]) :: some (Blk.cells [.bool false]) :: some (.loop (busyL r)) :: (ex2 ++ [some (Blk.cells (stpC x))])) (ringL s m (w ++ [y]) x)) (fun nt tk => ?_) ?_ (fun v S'=>RgEnd.noPanic)
   ·exact ih m (Nat.lt_succ_self m) (w ++ [y]) x (ks ++ [enS s y]) out' _ nt tk (by omega) hin2 (fun i=>by simp [hks])
   ·intro v S' hR
    cases hq2:ringL s m (w ++ [y]) x with
    | some rr =>
     rw [hq2] at hR hfi
     obtain ⟨hv1,ks',ex',nt3,tk3,rfl⟩:=hR
     cases hv1
     have e:rgH s long (stpsA rr) ks' ++ ((ex ++ some (Blk.cells [stpsA (w ++ [y])]) :: some (Blk.cells [.int .i64 tot]) :: some (Blk.cells [.bool false]) :: some (.loop (busyL r)) :: (ex2 ++ [some (Blk.cells (stpC x))])) ++ ex')=rgJ s long (stpsA rr) ks' ex (some (Blk.cells [stpsA (w ++ [y])])) (some (Blk.cells [.int .i64 tot])) (some (Blk.cells [.bool false])) (some (.loop (busyL r))) ((ex2 ++ [some (Blk.cells (stpC x))]) ++ ex'):=by simp [rgJ]
     rw [e]
     simp only [go_sem,rgJ_9,rgJ_set9,zAd,AV.cells,AV.one,zL,zO,zJ,splice,zI,zH,and_self,zB,zD,zC,reduceIte,reduceCtorEq,zA]
     exact ⟨rgJ_10,.inr ⟨rfl,rr,ks',_,_,_,hfi,by rw [put_mk,rgJ_set10]⟩⟩
    | none =>
     rw [hq2] at hR hfi
     obtain ⟨hv1,out2,ex',nt3,tk3,rfl⟩:=hR
     cases hv1
     have e:rgH s long out2 (ks ++ [enS s y]) ++ ((ex ++ some (Blk.cells [stpsA (w ++ [y])]) :: some (Blk.cells [.int .i64 tot]) :: some (Blk.cells [.bool false]) :: some (.loop (busyL r)) :: (ex2 ++ [some (Blk.cells (stpC x))])) ++ ex')=rgJ s long out2 (ks ++ [enS s y]) ex (some (Blk.cells [stpsA (w ++ [y])])) (some (Blk.cells [.int .i64 tot])) (some (Blk.cells [.bool false])) (some (.loop (busyL r))) ((ex2 ++ [some (Blk.cells (stpC x))]) ++ ex'):=by simp [rgJ]
     rw [e]
     simp only [go_sem,zB,zD,zC,reduceIte,reduceCtorEq,zA]
     exact ⟨rgJ_10,.inl ⟨rfl,by rw [hfi,show 2 * s.sights.length - (k+1)=q by omega],out2,_,_,_,by rw [put_mk,rgJ_set10]⟩⟩
  ·rintro k S1 hk hf ⟨hfi,out',ex2,nt',tk',rfl⟩
   obtain ⟨q,hq⟩:∃ q,2 * s.sights.length - k=q+1:=⟨2 * s.sights.length - k - 1,by omega⟩
   have eF:F k=none:=by rw [hF];exact if_neg fun hb=>hf (.inr hb)
   rw [hq,zBx,eF] at hfi
   exact ⟨by rw [hfi,show 2 * s.sights.length - (k+1)=q by omega],out',ex2,nt',tk',rfl⟩
  ·rintro S' (⟨hfi,out',ex2,nt',tk',rfl⟩ | ⟨r',ks',ex2,nt',tk',hfi,rfl⟩)
   ·refine .inl ⟨rgJ_10, ?_⟩
    have hclr:St.clear ⟨rgJ s long out' (ks ++ [enS s y]) ex (some (Blk.cells [stpsA (w ++ [y])])) (some (Blk.cells [.int .i64 tot])) (some (Blk.cells [.bool false])) (some (.loop r)) ex2,nt',tk'⟩ (ex.length+10)=⟨rgJ s long out' (ks ++ [enS s y]) ex (some (Blk.cells [stpsA (w ++ [y])])) (some (Blk.cells [.int .i64 tot])) (some (Blk.cells [.bool false])) none ex2,nt',tk'⟩:=by
     show (⟨List.set _ _ _,_,_⟩:St)=_
     rw [rgJ_clr]
    rw [hclr]
    have hdel:deleteA T ⟨rgJ s long out' (ks ++ [enS s y]) ex (some (Blk.cells [stpsA (w ++ [y])])) (some (Blk.cells [.int .i64 tot])) (some (Blk.cells [.bool false])) none ex2,nt',tk'⟩ 181 (.map 3) (.int .i64 (enS s y))=some (.write 3 (.map (metA ks)) (.tuple [])):=mapDel rgJ_3 hc
    have h0:firstI F 0 (2 * s.sights.length)=none:=by rw [hfi,Nat.sub_self];rfl
    rw [h0]
    simp only [go_sem,rgJ_4,zAa,hdel,zAd,rgJ_map,zB,zD,zC,reduceIte,reduceCtorEq,zA]
    simp only [go_sem,rgJ_9,rgJ_set9,zAd,AV.cells,AV.one,zL,zO,zJ,splice,zI,zH,and_self,Tryz.f172,zB,zD,zC,reduceIte,reduceCtorEq,zA]
    exact ⟨rfl,out',_,_,_,rfl⟩
   ·refine .inr ⟨rgJ_10, ?_⟩
    have hclr:St.clear ⟨rgJ s long (stpsA r') ks' ex (some (Blk.cells [stpsA (w ++ [y])])) (some (Blk.cells [.int .i64 tot])) (some (Blk.cells [.bool true])) (some (.loop (stopL r))) ex2,nt',tk'⟩ (ex.length+10)=⟨rgJ s long (stpsA r') ks' ex (some (Blk.cells [stpsA (w ++ [y])])) (some (Blk.cells [.int .i64 tot])) (some (Blk.cells [.bool true])) none ex2,nt',tk'⟩:=by
     show (⟨List.set _ _ _,_,_⟩:St)=_
     rw [rgJ_clr]
    rw [hclr,hfi]
    simp only [go_sem,rgJ_9,Tryz.f172,zB,zD,zC,reduceIte,reduceCtorEq,zA]
    exact ⟨rfl,ks',_,_,_,rfl⟩
end Go.Av.Lx
end
