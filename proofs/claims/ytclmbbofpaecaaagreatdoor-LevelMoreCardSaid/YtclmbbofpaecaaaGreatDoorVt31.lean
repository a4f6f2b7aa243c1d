/- Part 31 of the proof. -/
import Derived.Test.YtclmbbofpaecaaaGreatDoorVt30
import Derived.Test.YtclmbbofpaecaaaGreatDoorVt20
import Derived.Test.YtclmbbofpaecaaaGreatDoorRows
import Derived.ProofKit
import Derived.LaidMore
import Derived.OpenShut
import Derived.Deep.Slices
import Derived.Stop.Joined
import Derived.ChangeOld
import Derived.SizedLaws
set_option linter.all false
set_option linter.unusedVariables false
set_option linter.unusedSimpArgs false
set_option linter.unusedSectionVars false
open Array renaming getElem?_eq_getElem → qC
open Bool renaming and_self → zJ, not_true → zX, not_false → qF
open Int renaming toNat_natCast → qL
open List renaming getElem?_eq_getElem → zF, set_cons_succ → zG, set_cons_zero → zH, all_cons → zK, all_nil → zM, getElem?_eq_none → zO, mem_cons_self → zP, length_cons → zS, getElem_mem → zW, getElem?_append_right → zZ, length_nil → qB, getElem?_append_left → qJ, flatMap_cons → qX, length_set → yG
open Nat renaming reduceLeDiff → zA, reduceEqDiff → zB, reduceAdd → zC, reduceBEq → zD, le_of_ble_eq_true → zE, le_refl → zN, lt_or_ge → zV, zero_add → yK
section
set_option maxHeartbeats 8000000
namespace Go.Av.Lx
open Go Go.Av Go.Av.Tb Go.Av.Fx Go.Proofs
open Go.Lv (Sight Survey Sw Sv SightOk withS possS setS turn)
open Go.Fw (Sq ent Bd Mat)
theorem sgts_set1:∀ (l:List Sight) (k:Nat) (h:k<l.length) (o:Int),(sgts l).set (k * 4+3) (.int .i64 o)=sgts (l.set k { l[k] with off:=o })
 | x :: l,0,_,o=>rfl
 | x :: l,k+1,h,o=>by
  show (sgtC x ++ sgts l).set ((k+1) * 4+3) _=sgtC x ++ sgts (l.set k _)
  rw [List.set_append_right _ _ (by show 4≤_;omega),show (k+1) * 4+3 - (sgtC x).length=k * 4+3 from by show (k+1) * 4+3 - 4=_;omega,sgts_set1 l k (by simpa using h)]
  rfl
theorem sgts_set4:∀ (l:List Sight) (k:Nat) (h:k<l.length) (a b c d:Int),((((sgts l).set (k * 4) (.int .i64 a)).set (k * 4+1) (.int .i64 b)).set (k * 4+1+1) (.int .i64 c)).set (k * 4+1+1+1) (.int .i64 d)=sgts (l.set k ⟨a,b,c,d⟩)
 | x :: l,0,_,a,b,c,d=>rfl
 | x :: l,k+1,h,a,b,c,d=>by
  have e:∀ (L:List AV) (j:Nat) (v:AV),(sgtC x ++ L).set ((k+1) * 4+j) v=sgtC x ++ L.set (k * 4+j) v:=fun L j v=>by
   rw [List.set_append_right _ _ (by show 4≤_;omega),show (k+1) * 4+j - (sgtC x).length=k * 4+j from by show (k+1) * 4+j - 4=_;omega]
  show ((((sgtC x ++ sgts l).set ((k+1) * 4+0) _).set ((k+1) * 4+1) _).set ((k+1) * 4+2) _).set ((k+1) * 4+3) _=sgtC x ++ sgts (l.set k _)
  rw [e,e,e,e,← sgts_set4 l k (by simpa using h)]
  rfl
theorem sgts_cell3 (l:List Sight) (k:Nat) (h:k<l.length):(sgts l)[k * 4+3]? = some (.int .i64 l[k].off):=by
 have:=zBs l k h
 have e:((sgts l).drop (k * 4))[3]? = (((sgts l).drop (k * 4)).take 4)[3]?:=by rw [List.getElem?_take,if_pos (by decide)]
 rw [List.getElem?_drop] at e
 rw [e,this];rfl
theorem lnt_sur (H:List (Option Blk)) (i n:Nat) (st:Int) (L:List Sight) (hi:H[i]? = some (some (.cells (sgts L)))) (hn:L.length=n):Lnt H (.agg [.int .i64 st,.sref i 0 n n]) (surA ⟨st,L⟩):=by
 subst hn
 refine .agg _ _ rfl fun j x y hx hy => ?_
 match j,hx,hy with
 | 0,hx,hy=>cases hx;cases hy;exact .same _ rfl
 | 1,hx,hy =>
  cases hx;cases hy
  have:=Lnt.row i 0 L.length L.length 4 (sgts L) hi (sgts_bnd _ _ _) (by rw [zAw];omega) (zN _)
  rw [List.drop_zero,List.take_of_length_le (by rw [zAw];omega)] at this
  exact this
 | j+2,hx,hy=>simp at hx
theorem zDg {H:List (Option Blk)} {x y:AV} {l l':List AV} (h:Lnt H x y) (hl:LntL H l l'):LntL H (x :: l) (y :: l'):=
 ⟨by simp [hl.1],fun j a b ha hb=>by
  cases j with
  | zero=>cases ha;cases hb;exact h
  | succ j=>exact hl.2 j a b (by simpa using ha) (by simpa using hb)⟩
theorem lntl_nil (H:List (Option Blk)):LntL H [] []:=⟨rfl,fun j a b ha=>by simp at ha⟩
theorem more_t12 (s:Survey) (hl:okL s.sights.length) (a b:Nat) (m:Sight) (hm:s.sights.length≤17) (e lo hi:Int) (B3 B4 B5 B6 B7 B8 B9:Option Blk) (v:AV)
  (hB:zAo (withS s m)=true → ∃ wl wh h,PC Tryz.prog 25 [surA (withS s m),.int .i64 (a:Nat),.int .i64 (b:Nat)] (.pure (.tuple [.agg [.int .i64 wl,.int .i64 wh],.int .i64 h])) ∧
   ((e=0∧h=0 ∧ ¬ wl<lo ∧ ¬ wh > hi)∨(e=0∧h=7)∨(e=5∧(h=0∨h=5∨h=7))∨(e=7∧h=7))) (Q:AQ) (hQ:∀ X,Q .ret [(12,.bool true)] ⟨X,0,[]⟩) :
  WC (E 218) (.seq (.region [1,2,13,14,22] r9_12) (.seq (.seq (.region [1,2,13,14,22,172] r9_13) (.cond (.tmp 172) (.seq (.region [12] r9_14) .ret) .skip)) (.seq (.region [13,14,23,24] r9_15) (.seq (.seq (.region [14,24,200] r9_16) (.cond (.tmp 200) (.seq (.region [12] r9_17) .ret) .skip)) (.seq (.region [12] r9_18) .ret))))) Q [(1,.int .i64 (a:Nat)),(2,.int .i64 (b:Nat)),(6,.ref 0 0),(9,.ref 1 0),(13,.ref 2 0),(14,.int .i64 e),(166,v)] ⟨[some (.cells (surC s)),some (.cells (sgtC m)),some (.cells [.int .i64 lo,.int .i64 hi]),B3,B4,B5,B6,B7,B8,B9],0,[]⟩:=by
 have hc2:∀ a b:AV,AV.cells (.agg [a,b])=[a,b]:=fun _ _=>rfl
 have oI:∀ n:Int,AV.one (.int .i64 n)=true:=fun _=>rfl
 have oS:∀ (l:List AV) (n:Nat) (u:Tail),AV.one (.slice l n u)=true:=fun _ _ _=>rfl
 have oF:∀ i o n c:Nat,AV.one (.sref i o n c)=true:=fun _ _ _ _=>rfl
 have z0:decide ((0:Int)=0)=true:=rfl
 have z7:decide ((7:Int)=7)=true:=rfl
 have n70:decide ((7:Int)=0)=false:=rfl
 have n50:decide ((5:Int)=0)=false:=rfl
 have n57:decide ((5:Int)=7)=false:=rfl
 have n75:decide ((7:Int)≠5)=true:=rfl
 have u00:decide ((0:Int)≠0)=false:=rfl
 have u05:decide ((0:Int)≠5)=true:=rfl
 have u07:decide ((0:Int)≠7)=true:=rfl
 have u57:decide ((5:Int)≠7)=true:=rfl
 have u77:decide ((7:Int)≠7)=false:=rfl
 have u70:decide ((7:Int)≠0)=true:=rfl
 have u50:decide ((5:Int)≠0)=true:=rfl
 have hW:=With_pc s (by omega) m
 have hok:okL (withS s m).sights.length:=by unfold withS okL;simp;omega
 have hV:=rSurvey_pc (withS s m) hok
 generalize withS s m=z at *
 simp only [go_sem,zB,zD,zC,reduceIte,reduceCtorEq,zA]
 refine cp n55 hW (SubL.refl _) ?_
 simp only [go_sem,zAc,hc2,oI,oS,oF,zK,zM,zJ,splice,zH,zG,and_self,zS,qB,zB,zD,zC,reduceIte,reduceCtorEq,zA]
 refine cp n33 hV (SubL.refl _) ?_
 cases hz:zAo z
 ·simp only [go_sem,zAj,qF,zB,zD,zC,reduceIte,reduceCtorEq,zA]
  refine cp n24 zBf (SubL.refl _) ?_
  simp only [go_sem,zB,zD,zC,reduceIte,reduceCtorEq,zA]
  exact hQ _
 obtain ⟨wl,wh,h,hP,hc⟩:=hB hz
 rcases hc with ⟨rfl,rfl,c1,c2⟩ | ⟨rfl,rfl⟩ | ⟨rfl,rfl | rfl | rfl⟩ | ⟨rfl,rfl⟩
 ·simp only [go_sem,zAj,zX,zB,zD,zC,reduceIte,reduceCtorEq,zA]
  refine cp n25 hP (SubL.refl _) ?_
  simp only [go_sem,zAd,zAc,hc2,oI,oS,oF,zK,zM,zJ,splice,zH,zG,and_self,zS,qB,z0,c1,c2,u07,u00,u05,decide_true,decide_false,zB,zD,zC,reduceIte,reduceCtorEq,zA]
  refine cp n24 zBf (SubL.refl _) ?_
  simp only [go_sem,zB,zD,zC,reduceIte,reduceCtorEq,zA]
  exact hQ _
 ·simp only [go_sem,zAj,zX,zB,zD,zC,reduceIte,reduceCtorEq,zA]
  refine cp n25 hP (SubL.refl _) ?_
  simp only [go_sem,zAd,zAc,hc2,oI,oS,oF,zK,zM,zJ,splice,zH,zG,and_self,zS,qB,n70,z0,u07,u00,n75,decide_true,decide_false,zB,zD,zC,reduceIte,reduceCtorEq,zA]
  refine cp n24 zBf (SubL.refl _) ?_
  simp only [go_sem,zB,zD,zC,reduceIte,reduceCtorEq,zA]
  exact hQ _
 ·simp only [go_sem,zAj,zX,zB,zD,zC,reduceIte,reduceCtorEq,zA]
  refine cp n25 hP (SubL.refl _) ?_
  simp only [go_sem,zAd,zAc,hc2,oI,oS,oF,zK,zM,zJ,splice,zH,zG,and_self,zS,qB,z0,n50,u57,u50,decide_true,decide_false,zB,zD,zC,reduceIte,reduceCtorEq,zA]
  refine cp n24 zBf (SubL.refl _) ?_
  simp only [go_sem,zB,zD,zC,reduceIte,reduceCtorEq,zA]
  exact hQ _
 ·simp only [go_sem,zAj,zX,zB,zD,zC,reduceIte,reduceCtorEq,zA]
  refine cp n25 hP (SubL.refl _) ?_
  simp only [go_sem,zAd,zAc,hc2,oI,oS,oF,zK,zM,zJ,splice,zH,zG,and_self,zS,qB,n50,u57,u50,decide_true,decide_false,zB,zD,zC,reduceIte,reduceCtorEq,zA]
  refine cp n24 zBf (SubL.refl _) ?_
  simp only [go_sem,zB,zD,zC,reduceIte,reduceCtorEq,zA]
  exact hQ _
 ·simp only [go_sem,zAj,zX,zB,zD,zC,reduceIte,reduceCtorEq,zA]
  refine cp n25 hP (SubL.refl _) ?_
  simp only [go_sem,zAd,zAc,hc2,oI,oS,oF,zK,zM,zJ,splice,zH,zG,and_self,zS,qB,n70,n50,u57,u50,decide_true,decide_false,zB,zD,zC,reduceIte,reduceCtorEq,zA]
  refine cp n24 zBf (SubL.refl _) ?_
  simp only [go_sem,zB,zD,zC,reduceIte,reduceCtorEq,zA]
  exact hQ _
 ·simp only [go_sem,zAj,zX,zB,zD,zC,reduceIte,reduceCtorEq,zA]
  refine cp n25 hP (SubL.refl _) ?_
  simp only [go_sem,zAd,zAc,hc2,oI,oS,oF,zK,zM,zJ,splice,zH,zG,and_self,zS,qB,n70,u77,z7,u70,decide_true,decide_false,zB,zD,zC,reduceIte,reduceCtorEq,zA]
  refine cp n24 zBf (SubL.refl _) ?_
  simp only [go_sem,zB,zD,zC,reduceIte,reduceCtorEq,zA]
  exact hQ _
theorem more_d4 (s:Survey) (hl:s.sights.length≤17) (hne:s.sights≠[]) (a b at':Nat) (off:Int) (m:Sight) (e lo hi:Int) (Q:AQ)
  (hQ:Q .normal [(1,.int .i64 (a:Nat)),(2,.int .i64 (b:Nat)),(4,.int .i64 (at':Nat)),(5,.int .i64 off),(6,.ref 0 0),(9,.ref 1 0),(13,.ref 2 0),(14,.int .i64 e),(15,.ref 5 0),(16,.ref 6 0)] ⟨[some (.cells (surC s)),some (.cells (sgtC m)),some (.cells [.int .i64 lo,.int .i64 hi]),some (.cells (sgts s.sights)),some (.cells (sgts s.sights)),some (.cells [.int .i64 s.stations,.sref 3 0 s.sights.length s.sights.length]),some (.cells [.int .i64 s.stations,.sref 4 0 s.sights.length s.sights.length])],0,[]⟩) :
  WC (E 218) (.draw [1,2,4,5,6,9,13,14,15,16] 6 [] r9_4) Q [(1,.int .i64 (a:Nat)),(2,.int .i64 (b:Nat)),(4,.int .i64 (at':Nat)),(5,.int .i64 off),(6,.ref 0 0),(9,.ref 1 0),(13,.ref 2 0),(14,.int .i64 e)] ⟨[some (.cells (surC s)),some (.cells (sgtC m)),some (.cells [.int .i64 lo,.int .i64 hi])],0,[]⟩:=by
 have hc2:∀ a b:AV,AV.cells (.agg [a,b])=[a,b]:=fun _ _=>rfl
 have oI:∀ n:Int,AV.one (.int .i64 n)=true:=fun _=>rfl
 have oS:∀ (l:List AV) (n:Nat) (u:Tail),AV.one (.slice l n u)=true:=fun _ _ _=>rfl
 have oF:∀ i o n c:Nat,AV.one (.sref i o n c)=true:=fun _ _ _ _=>rfl
 have hW:=rWithoutO_pc s (by omega) [] (by show 0<_;decide) (by rw [without_nil];exact hne)
 rw [without_nil] at hW
 simp only [go_sem,zB,zD,zC,reduceIte,reduceCtorEq,zA]
 refine zEg (E:=E 218) n54 hW (SubL.cons (Sub.refl _) (SubL.cons Sub.nil (SubL.refl []))) ?_
 simp only [go_sem,zB,zD,zC,reduceIte,reduceCtorEq,zA]
 refine zEg (E:=E 218) n54 hW (SubL.cons (Sub.refl _) (SubL.cons Sub.nil (SubL.refl []))) ?_
 simp only [go_sem,zAc,hc2,oI,oS,oF,zK,zM,zJ,splice,zH,zG,and_self,zS,qB,zB,zD,zC,reduceIte,reduceCtorEq,zA]
 exact hQ
theorem more_d5 (s:Survey) (hl:s.sights.length≤17) (a b at':Nat) (hat:at'<s.sights.length) (off:Int) (hoff:0≤off∧off≤50) (ho:0≤s.sights[at'].off∧s.sights[at'].off≤50) (m:Sight) (e lo hi:Int) (Q:AQ)
  (hQ:Q .normal [(1,.int .i64 (a:Nat)),(2,.int .i64 (b:Nat)),(4,.int .i64 (at':Nat)),(6,.ref 0 0),(9,.ref 1 0),(13,.ref 2 0),(14,.int .i64 e),(15,.ref 5 0),(16,.ref 6 0)] ⟨[some (.cells (surC s)),some (.cells (sgtC m)),some (.cells [.int .i64 lo,.int .i64 hi]),some (.cells (sgts (setS s at' { s.sights[at'] with off:=s.sights[at'].off+off }).sights)),some (.cells (sgts s.sights)),some (.cells [.int .i64 s.stations,.sref 3 0 s.sights.length s.sights.length]),some (.cells [.int .i64 s.stations,.sref 4 0 s.sights.length s.sights.length])],0,[]⟩) :
  WC (E 218) (.draw [1,2,4,6,9,13,14,15,16] 11 [] r9_5) Q [(1,.int .i64 (a:Nat)),(2,.int .i64 (b:Nat)),(4,.int .i64 (at':Nat)),(5,.int .i64 off),(6,.ref 0 0),(9,.ref 1 0),(13,.ref 2 0),(14,.int .i64 e),(15,.ref 5 0),(16,.ref 6 0)] ⟨[some (.cells (surC s)),some (.cells (sgtC m)),some (.cells [.int .i64 lo,.int .i64 hi]),some (.cells (sgts s.sights)),some (.cells (sgts s.sights)),some (.cells [.int .i64 s.stations,.sref 3 0 s.sights.length s.sights.length]),some (.cells [.int .i64 s.stations,.sref 4 0 s.sights.length s.sights.length])],0,[]⟩:=by
 have hc2:∀ a b:AV,AV.cells (.agg [a,b])=[a,b]:=fun _ _=>rfl
 have oI:∀ n:Int,AV.one (.int .i64 n)=true:=fun _=>rfl
 have oS:∀ (l:List AV) (n:Nat) (u:Tail),AV.one (.slice l n u)=true:=fun _ _ _=>rfl
 have oF:∀ i o n c:Nat,AV.one (.sref i o n c)=true:=fun _ _ _ _=>rfl
 have k2:0≤(at':Int)∧(at':Int)<s.sights.length:=by omega
 have k3:at' * 4+4≤(sgts s.sights).length:=by rw [zAw];omega
 have g:=sgts_cell3 s.sights at' hat
 have gs:=sgts_set1 s.sights at' hat (s.sights[at'].off+off)
 have w:IntKind.i64.wrap (s.sights[at'].off+off)=s.sights[at'].off+off:=wrap64 (by omega)
 have es:(setS s at' { s.sights[at'] with off:=s.sights[at'].off+off }).sights=s.sights.set at' { s.sights[at'] with off:=s.sights[at'].off+off }:=rfl
 rw [es,← gs] at hQ
 generalize s.sights[at'].off=o0 at *
 simp only [go_sem,zAc,hc2,oI,oS,oF,zK,zM,zJ,splice,zH,zG,and_self,zS,qB,k2,k3,zAg,yK,g,w,zB,zD,zC,reduceIte,reduceCtorEq,zA]
 exact hQ
theorem more_t6 (s:Survey) (hv:Sv s) (a b at':Nat) (hat:at'<s.sights.length) (m:Sight) (e lo hi:Int) (Lx:List Sight) (hLx:Lx.length=s.sights.length) (xl xh f:Int)
  (hBx:PC Tryz.prog 25 [surA ⟨s.stations,Lx⟩,.int .i64 (a:Nat),.int .i64 (b:Nat)] (.pure (.tuple [.agg [.int .i64 xl,.int .i64 xh],.int .i64 f])))
  (hBy:PC Tryz.prog 25 [surA ⟨s.stations,s.sights.set at' (turn s.sights[at'])⟩,.int .i64 (a:Nat),.int .i64 (b:Nat)] (.pure (.tuple [.agg [.int .i64 lo,.int .i64 hi],.int .i64 e])))
  (hc:(e=0∧f=0 ∧ ¬ xl > lo ∧ ¬ xh<hi)∨(e=5∧f=5)∨e=7)
  (hB:zAo (withS s m)=true → ∃ wl wh h,PC Tryz.prog 25 [surA (withS s m),.int .i64 (a:Nat),.int .i64 (b:Nat)] (.pure (.tuple [.agg [.int .i64 wl,.int .i64 wh],.int .i64 h])) ∧
   ((e=0∧h=0 ∧ ¬ wl<lo ∧ ¬ wh > hi)∨(e=0∧h=7)∨(e=5∧(h=0∨h=5∨h=7))∨(e=7∧h=7))) (Q:AQ) (hQ:∀ X,Q .ret [(12,.bool true)] ⟨X,0,[]⟩) :
  WC (E 218) (.seq (.region [1,2,4,6,9,13,14,15,16,17] r9_6) (.seq (.region [1,2,6,9,13,14,15,16] r9_7) (.seq (.region [1,2,6,9,13,14,16,18,19] r9_8) (.seq (.region [1,2,6,9,13,14,18,19,20,21] r9_9) (.seq (.seq (.region [1,2,6,9,13,14,166] r9_10) (.cond (.tmp 166) (.seq (.region [12] r9_11) .ret) .skip)) (.seq (.region [1,2,13,14,22] r9_12) (.seq (.seq (.region [1,2,13,14,22,172] r9_13) (.cond (.tmp 172) (.seq (.region [12] r9_14) .ret) .skip)) (.seq (.region [13,14,23,24] r9_15) (.seq (.seq (.region [14,24,200] r9_16) (.cond (.tmp 200) (.seq (.region [12] r9_17) .ret) .skip)) (.seq (.region [12] r9_18) .ret)))))))))) Q [(1,.int .i64 (a:Nat)),(2,.int .i64 (b:Nat)),(4,.int .i64 (at':Nat)),(6,.ref 0 0),(9,.ref 1 0),(13,.ref 2 0),(14,.int .i64 e),(15,.ref 5 0),(16,.ref 6 0)] ⟨[some (.cells (surC s)),some (.cells (sgtC m)),some (.cells [.int .i64 lo,.int .i64 hi]),some (.cells (sgts Lx)),some (.cells (sgts s.sights)),some (.cells [.int .i64 s.stations,.sref 3 0 s.sights.length s.sights.length]),some (.cells [.int .i64 s.stations,.sref 4 0 s.sights.length s.sights.length])],0,[]⟩:=by
 obtain ⟨TT,hT⟩:∃ TT,MC.seq (.region [1,2,13,14,22] r9_12) (.seq (.seq (.region [1,2,13,14,22,172] r9_13) (.cond (.tmp 172) (.seq (.region [12] r9_14) .ret) .skip)) (.seq (.region [13,14,23,24] r9_15) (.seq (.seq (.region [14,24,200] r9_16) (.cond (.tmp 200) (.seq (.region [12] r9_17) .ret) .skip)) (.seq (.region [12] r9_18) .ret))))=TT:=⟨_,rfl⟩
 rw [hT]
 have hc2:∀ a b:AV,AV.cells (.agg [a,b])=[a,b]:=fun _ _=>rfl
 have oI:∀ n:Int,AV.one (.int .i64 n)=true:=fun _=>rfl
 have oS:∀ (l:List AV) (n:Nat) (u:Tail),AV.one (.slice l n u)=true:=fun _ _ _=>rfl
 have oF:∀ i o n c:Nat,AV.one (.sref i o n c)=true:=fun _ _ _ _=>rfl
 have z0:decide ((0:Int)=0)=true:=rfl
 have z5:decide ((5:Int)=5)=true:=rfl
 have n50:decide ((5:Int)=0)=false:=rfl
 have n70:decide ((7:Int)=0)=false:=rfl
 have n05:decide ((0:Int)=5)=false:=rfl
 have n75:decide ((7:Int)=5)=false:=rfl
 have u00:decide ((0:Int)≠0)=false:=rfl
 have u55:decide ((5:Int)≠5)=false:=rfl
 have u77:decide ((7:Int)≠7)=false:=rfl
 have hl:okL s.sights.length:=by have:=hv.many;unfold okL;omega
 have h12:=more_t12 s hl a b m (by have:=hv.many;omega) e lo hi
 rw [hT] at h12
 have hso:=hv.sights _ (zW hat)
 have hr:=hso.rise
 have k2:0≤(at':Int)∧(at':Int)<s.sights.length:=by omega
 have k3:at' * 4+4≤(sgts s.sights).length:=by rw [zAw];omega
 have k5:=zBs s.sights at' hat
 have g4:=sgts_set4 s.sights at' hat s.sights[at'].to s.sights[at'].frm (-s.sights[at'].rise) s.sights[at'].off
 have hly:(s.sights.set at' (turn s.sights[at'])).length=s.sights.length:=yG
 have et:turn s.sights[at']=⟨s.sights[at'].to,s.sights[at'].frm,-s.sights[at'].rise,s.sights[at'].off⟩:=rfl
 rw [et] at hBy hly
 generalize s.sights[at']=q at *
 generalize hLy:s.sights.set at' ⟨q.to,q.frm,-q.rise,q.off⟩=Ly at *
 have uN:unA .neg (.int .i64 q.rise)=some (.int .i64 (-q.rise)):=by show some (AV.int .i64 (IntKind.i64.wrap (0 - q.rise)))=_;rw [wrap64 (by omega)];simp
 have bA:∀ x y z w:Int,buildA T 85 [(0,.int .i64 x),(1,.int .i64 y),(2,.int .i64 z),(3,.int .i64 w)]=some (.agg [.int .i64 x,.int .i64 y,.int .i64 z,.int .i64 w]):=fun _ _ _ _=>rfl
 have hc4:∀ a b c d:AV,AV.cells (.agg [a,b,c,d])=[a,b,c,d]:=fun _ _ _ _=>rfl
 have hcq:∀ q:Sight,AV.cells (.agg (sgtC q))=sgtC q:=fun _=>rfl
 have ne:=neSpS lo hi
 have fl:∀ x y z:Int,AV.flat (.tuple [.agg [.int .i64 x,.int .i64 y],.int .i64 z])=true:=fun _ _ _=>rfl
 simp only [go_sem,zAc,hc2,oI,oS,oF,zK,zM,zJ,splice,zH,zG,and_self,zS,qB,k2,k3,k5,zAg,yK,and_self,uN,bA,hc4,hcq,sgtC,g4,zB,zD,zC,reduceIte,reduceCtorEq,zA]
 refine cl n25 hBx (zDg (lnt_sur _ 3 s.sights.length s.stations Lx rfl hLx) (zDg (.same _ rfl) (zDg (.same _ rfl) (lntl_nil _)))) (fl _ _ _) ?_
 simp only [go_sem,zAd,zAc,hc2,oI,oS,oF,zK,zM,zJ,splice,zH,zG,and_self,zS,qB,zB,zD,zC,reduceIte,reduceCtorEq,zA]
 refine cl n25 hBy (zDg (lnt_sur _ 4 s.sights.length s.stations Ly rfl hly) (zDg (.same _ rfl) (zDg (.same _ rfl) (lntl_nil _)))) (fl _ _ _) ?_
 rcases hc with ⟨rfl,rfl,c1,c2⟩ | ⟨rfl,rfl⟩ | rfl
 ·simp only [go_sem,zAd,zAc,hc2,oI,oS,oF,zK,zM,zJ,splice,zH,zG,and_self,zS,qB,ne,u00,z0,c1,c2,n05,decide_true,decide_false,zB,zD,zC,reduceIte,reduceCtorEq,zA]
  subst hT
  exact h12 _ _ _ _ _ _ _ _ hB _ hQ
 ·simp only [go_sem,zAd,zAc,hc2,oI,oS,oF,zK,zM,zJ,splice,zH,zG,and_self,zS,qB,ne,u55,n50,z5,decide_true,decide_false,zB,zD,zC,reduceIte,reduceCtorEq,zA]
  subst hT
  exact h12 _ _ _ _ _ _ _ _ hB _ hQ
 ·simp only [go_sem,zAd,zAc,hc2,oI,oS,oF,zK,zM,zJ,splice,zH,zG,and_self,zS,qB,ne,u77,n70,n75,decide_true,decide_false,zB,zD,zC,reduceIte,reduceCtorEq,zA]
  subst hT
  exact h12 _ _ _ _ _ _ _ _ hB _ hQ
theorem bounds_is (s:Survey) (hv:Sv s) (a b:Nat) (hi:0≤(a:Int)∧(a:Int)<s.stations) (hj:0≤(b:Int)∧(b:Int)<s.stations):∃ l h k:Int,PC Tryz.prog 25 [surA s,.int .i64 (a:Nat),.int .i64 (b:Nat)] (.pure (.tuple [.agg [.int .i64 l,.int .i64 h],.int .i64 k])):=by
 have hB:=zDd s (by have:=hv.many;unfold okL;omega) a b
 rw [zDf s hv _ _ hi hj] at hB
 simp only [qL] at hB
 have ha:a<Lv.num s:=by show a<s.stations.toNat;omega
 have hb:b<Lv.num s:=by show b<s.stations.toNat;omega
 cases hV:Lv.knownV s with
 | none=>rw [hV] at hB;exact ⟨0,0,7,hB⟩
 | some V =>
  simp only [hV] at hB
  by_cases hf:ent V a b<far
  ·rw [if_pos hf,span_eq hv.toSw hV ha hb (Lv.known_sym hv.toSw hV ha hb hf)] at hB
   exact ⟨_,_,_,hB⟩
  ·rw [if_neg hf] at hB
   exact ⟨_,_,_,hB⟩
set_option maxRecDepth 10000 in
theorem lmore_pc (s:Survey) (hl:okL s.sights.length) (i j:Int) (m:Sight) (at' off:Int):PC Tryz.prog 9 [surA s,.int .i64 i,.int .i64 j,.agg (sgtC m),.int .i64 at',.int .i64 off] (.pure (.bool true)):=by
 refine PC.of_empty (AC.run (E_ok _) mix Tryz.func9 m9 rfl rfl rfl (zE rfl) ?_) (by simp [bndL,AV.bnd]) rfl
 obtain ⟨D5,hD5⟩:∃ D,MC.draw [1,2,4,6,9,13,14,15,16] 11 [] r9_5=D:=⟨_,rfl⟩
 obtain ⟨T6,hT6⟩:∃ D,MC.seq (.region [1,2,4,6,9,13,14,15,16,17] r9_6) (.seq (.region [1,2,6,9,13,14,15,16] r9_7) (.seq (.region [1,2,6,9,13,14,16,18,19] r9_8) (.seq (.region [1,2,6,9,13,14,18,19,20,21] r9_9) (.seq (.seq (.region [1,2,6,9,13,14,166] r9_10) (.cond (.tmp 166) (.seq (.region [12] r9_11) .ret) .skip)) (.seq (.region [1,2,13,14,22] r9_12) (.seq (.seq (.region [1,2,13,14,22,172] r9_13) (.cond (.tmp 172) (.seq (.region [12] r9_14) .ret) .skip)) (.seq (.region [13,14,23,24] r9_15) (.seq (.seq (.region [14,24,200] r9_16) (.cond (.tmp 200) (.seq (.region [12] r9_17) .ret) .skip)) (.seq (.region [12] r9_18) .ret)))))))))=D:=⟨_,rfl⟩
 obtain ⟨D4,hD4⟩:∃ D,MC.draw [1,2,4,5,6,9,13,14,15,16] 6 [] r9_4=D:=⟨_,rfl⟩
 unfold c9
 rw [hD5,hT6,hD4]
 have hc2:∀ a b:AV,AV.cells (.agg [a,b])=[a,b]:=fun _ _=>rfl
 have oI:∀ n:Int,AV.one (.int .i64 n)=true:=fun _=>rfl
 have oS:∀ (l:List AV) (n:Nat) (u:Tail),AV.one (.slice l n u)=true:=fun _ _ _=>rfl
 have oF:∀ i o n c:Nat,AV.one (.sref i o n c)=true:=fun _ _ _ _=>rfl
 simp only [go_sem,boxA,zB,zD,zC,reduceIte,reduceCtorEq,zA]
 refine cp n23 (short_pc s) (SubL.refl _) ?_
 by_cases hsh:s.sights.length≤17
 rotate_left
 ·rw [decide_eq_false hsh]
  simp only [go_sem,zAj,qF,zB,zD,zC,reduceIte,reduceCtorEq,zA]
  refine cp n24 zBf (SubL.refl _) ?_
  simp only [go_sem,Tryz.f9,zB,zD,zC,reduceIte,reduceCtorEq,zA]
 rw [decide_eq_true hsh]
 simp only [go_sem,zAj,zX,zB,zD,zC,reduceIte,reduceCtorEq,zA]
 refine cp n33 (rSurvey_pc s hl) (SubL.refl _) ?_
 cases hv:zAo s
 ·simp only [go_sem,zAj,qF,zB,zD,zC,reduceIte,reduceCtorEq,zA]
  refine cp n24 zBf (SubL.refl _) ?_
  simp only [go_sem,Tryz.f9,zB,zD,zC,reduceIte,reduceCtorEq,zA]
 simp only [go_sem,zAj,zX,zB,zD,zC,reduceIte,reduceCtorEq,zA]
 refine cp n30 (zDl s i) (SubL.refl _) ?_
 cases hi:staB s i
 ·simp only [go_sem,zAj,qF,zB,zD,zC,reduceIte,reduceCtorEq,zA]
  refine cp n24 zBf (SubL.refl _) ?_
  simp only [go_sem,Tryz.f9,zB,zD,zC,reduceIte,reduceCtorEq,zA]
 simp only [go_sem,zAj,zX,zB,zD,zC,reduceIte,reduceCtorEq,zA]
 refine cp n30 (zDl s j) (SubL.refl _) ?_
 cases hj:staB s j
 ·simp only [go_sem,zAj,qF,zB,zD,zC,reduceIte,reduceCtorEq,zA]
  refine cp n24 zBf (SubL.refl _) ?_
  simp only [go_sem,Tryz.f9,zB,zD,zC,reduceIte,reduceCtorEq,zA]
 by_cases a1:at'<0
 ·simp only [go_sem,zAj,zX,a1,decide_true,zB,zD,zC,reduceIte,reduceCtorEq,zA]
  refine cp n24 zBf (SubL.refl _) ?_
  simp only [go_sem,Tryz.f9,zB,zD,zC,reduceIte,reduceCtorEq,zA]
 by_cases a2:at' ≥ s.sights.length
 ·simp only [go_sem,zAj,zX,zAa,a1,a2,decide_true,decide_false,zB,zD,zC,reduceIte,reduceCtorEq,zA]
  refine cp n24 zBf (SubL.refl _) ?_
  simp only [go_sem,Tryz.f9,zB,zD,zC,reduceIte,reduceCtorEq,zA]
 by_cases a3:off<0
 ·simp only [go_sem,zAj,zX,zAa,a1,a2,a3,decide_true,decide_false,zB,zD,zC,reduceIte,reduceCtorEq,zA]
  refine cp n24 zBf (SubL.refl _) ?_
  simp only [go_sem,Tryz.f9,zB,zD,zC,reduceIte,reduceCtorEq,zA]
 obtain ⟨p,rfl⟩:∃ p:Nat,at'=p:=⟨at'.toNat,by omega⟩
 have hp:p<s.sights.length:=by omega
 have hsv:=zDa.1 hv
 have hso:=hsv.sights _ (zW hp)
 have hoo:=hso.off
 have g:=sgts_cell3 s.sights p hp
 have k2:0≤(p:Int)∧(p:Int)<s.sights.length:=by omega
 have w:IntKind.i64.wrap (50 - s.sights[p].off)=50 - s.sights[p].off:=wrap64 (by omega)
 by_cases a4:off > 50 - s.sights[p].off
 ·generalize s.sights[p].off=o0 at *
  simp only [go_sem,zAj,zX,zAa,a1,a2,a3,a4,decide_true,decide_false,k2,zAg,yK,g,w,zB,zD,zC,reduceIte,reduceCtorEq,zA]
  refine cp n24 zBf (SubL.refl _) ?_
  simp only [go_sem,Tryz.f9,zB,zD,zC,reduceIte,reduceCtorEq,zA]
 have hi':=(zBh hsv.st).1 hi
 have hj':=(zBh hsv.st).1 hj
 obtain ⟨a,rfl⟩:∃ a:Nat,i=a:=⟨i.toNat,by omega⟩
 obtain ⟨b,rfl⟩:∃ b:Nat,j=b:=⟨j.toNat,by omega⟩
 have ha:a<Lv.num s:=by show a<s.stations.toNat;omega
 have hb:b<Lv.num s:=by show b<s.stations.toNat;omega
 have hyo:SightOk s.stations { s.sights[p] with off:=s.sights[p].off+off }:=⟨hso.frm,hso.to,hso.ne,hso.rise,by show 0≤s.sights[p].off+off∧s.sights[p].off+off≤50;omega⟩
 have hxv:Sv (setS s p { s.sights[p] with off:=s.sights[p].off+off }):=Lv.set_sv hsv hyo
 have hyv:Sv (setS s p (turn s.sights[p])):=Lv.set_sv hsv (Lv.turn_ok hso)
 have okx:okL (setS s p { s.sights[p] with off:=s.sights[p].off+off }).sights.length:=by have:=hxv.many;unfold okL;omega
 have oky:okL (setS s p (turn s.sights[p])).sights.length:=by have:=hyv.many;unfold okL;omega
 have hB:=zDd s hl a b
 have hBx:=zDd _ okx a b
 have hBy:=zDd _ oky a b
 rw [zDf s hsv _ _ hi' hj'] at hB
 rw [zDf _ hxv _ _ hi' hj'] at hBx
 rw [zDf _ hyv _ _ hi' hj'] at hBy
 simp only [qL] at hB hBx hBy
 have hlen:(s.sights.set p { s.sights[p] with off:=s.sights[p].off+off }).length=s.sights.length:=yG
 have hne:s.sights≠[]:=fun h=>by rw [h] at hp;cases hp
 have hM:∀ (e lo hi:Int),(Lv.knownV s=none→e=7)→(∀ V,Lv.knownV s=some V→(ent V a b<far→e=0∧lo = -ent V b a∧hi=ent V a b)∧(¬ ent V a b<far→e=5)) →
   zAo (withS s m)=true → ∃ wl wh h,PC Tryz.prog 25 [surA (withS s m),.int .i64 (a:Nat),.int .i64 (b:Nat)] (.pure (.tuple [.agg [.int .i64 wl,.int .i64 wh],.int .i64 h])) ∧
   ((e=0∧h=0 ∧ ¬ wl<lo ∧ ¬ wh > hi)∨(e=0∧h=7)∨(e=5∧(h=0∨h=5∨h=7))∨(e=7∧h=7)):=fun e lo hi h1 h2 hz=>by
  have hzv:=zDa.1 hz
  have hms:SightOk s.stations m:=hzv.sights m (List.mem_append_right _ (List.mem_singleton.2 rfl))
  have hBz:=zDd (withS s m) (by have:=hzv.many;unfold okL;omega) a b
  rw [zDf _ hzv _ _ hi' hj'] at hBz
  simp only [qL] at hBz
  cases hV:Lv.knownV s with
  | none =>
   rw [Lv.with_none hsv.toSw hms hV] at hBz
   exact ⟨0,0,7,hBz,.inr (.inr (.inr ⟨h1 hV,rfl⟩))⟩
  | some V =>
   obtain ⟨q1,q2⟩:=h2 V hV
   cases hV':Lv.knownV (withS s m) with
   | none =>
    simp only [hV'] at hBz
    by_cases hf:ent V a b<far
    ·exact ⟨0,0,7,hBz,.inr (.inl ⟨(q1 hf).1,rfl⟩)⟩
    ·exact ⟨0,0,7,hBz,.inr (.inr (.inl ⟨q2 hf,.inr (.inr rfl)⟩))⟩
   | some V' =>
    simp only [hV'] at hBz
    by_cases hf:ent V a b<far
    ·obtain ⟨f1,f2⟩:=Lv.with_less hsv.toSw hms hV hV' ha hb hf
     obtain ⟨f3,f4⟩:=Lv.with_less hsv.toSw hms hV hV' hb ha (Lv.known_sym hsv.toSw hV ha hb hf)
     have f1':ent V' a b<far:=f1
     rw [if_pos f1',span_eq hzv.toSw hV' ha hb f3] at hBz
     obtain ⟨e1,e2,e3⟩:=q1 hf
     exact ⟨_,_,0,hBz,.inl ⟨e1,rfl,by omega,by omega⟩⟩
    ·by_cases hf':ent V' a b<far
     ·rw [if_pos hf',span_eq hzv.toSw hV' ha hb (Lv.known_sym hzv.toSw hV' ha hb hf')] at hBz
      exact ⟨_,_,0,hBz,.inr (.inr (.inl ⟨q2 hf,.inl rfl⟩))⟩
     ·rw [if_neg hf'] at hBz
      exact ⟨0,0,5,hBz,.inr (.inr (.inl ⟨q2 hf,.inr (.inl rfl)⟩))⟩
 have hQ:∀ X,bodyQ (E 218) Tryz.f9.results.toList (fun e _=>e=.ret (.bool true)) .ret [(12,.bool true)] ⟨X,0,[]⟩:=fun X=>by
  simp only [go_sem,Tryz.f9,zB,zD,zC,reduceIte,reduceCtorEq,zA]
 suffices hex:∃ e lo hi xl xh f:Int,PC Tryz.prog 25 [surA s,.int .i64 (a:Nat),.int .i64 (b:Nat)] (.pure (.tuple [.agg [.int .i64 lo,.int .i64 hi],.int .i64 e])) ∧
   PC Tryz.prog 25 [surA ⟨s.stations,s.sights.set p { s.sights[p] with off:=s.sights[p].off+off }⟩,.int .i64 (a:Nat),.int .i64 (b:Nat)] (.pure (.tuple [.agg [.int .i64 xl,.int .i64 xh],.int .i64 f])) ∧
   PC Tryz.prog 25 [surA ⟨s.stations,s.sights.set p (turn s.sights[p])⟩,.int .i64 (a:Nat),.int .i64 (b:Nat)] (.pure (.tuple [.agg [.int .i64 lo,.int .i64 hi],.int .i64 e])) ∧
   ((e=0∧f=0 ∧ ¬ xl > lo ∧ ¬ xh<hi)∨(e=5∧f=5)∨e=7) ∧
   ((Lv.knownV s=none→e=7)∧(∀ V,Lv.knownV s=some V→(ent V a b<far→e=0∧lo = -ent V b a∧hi=ent V a b)∧(¬ ent V a b<far→e=5))) by
  obtain ⟨e,lo,hi,xl,xh,f,p1,p2,p3,p4,p5⟩:=hex
  have d4:=more_d4 s hsh hne a b p off m e lo hi
  have d5:=more_d5 s hsh a b p hp off (by omega) hoo m e lo hi
  have t6:=more_t6 s hsv a b p hp m e lo hi _ hlen xl xh f p2 p3 p4 (hM e lo hi p5.1 p5.2)
  rw [hD4] at d4
  rw [hD5] at d5
  rw [hT6] at t6
  generalize s.sights[p].off=o0 at *
  simp only [go_sem,zAj,zX,zAa,a1,a2,a3,a4,decide_false,k2,zAg,yK,g,w,zB,zD,zC,reduceIte,reduceCtorEq,zA]
  refine cp n25 p1 (SubL.refl _) ?_
  simp only [go_sem,zAd,zAc,hc2,oI,oS,oF,zK,zM,zJ,splice,zH,zG,and_self,zS,qB,zB,zD,zC,reduceIte,reduceCtorEq,zA]
  refine d4 _ ?_
  simp only [go_sem,zB,zD,zC,reduceIte,reduceCtorEq,zA]
  refine d5 _ ?_
  simp only [go_sem,zB,zD,zC,reduceIte,reduceCtorEq,zA]
  exact t6 _ hQ
 cases hV:Lv.knownV s with
 | none =>
  have ht:=Lv.turn_none hsv.toSw hp hV
  simp only [hV] at hB
  rw [ht] at hBy
  obtain ⟨xl,xh,f,hx⟩:=bounds_is _ hxv a b hi' hj'
  exact ⟨7,0,0,xl,xh,f,hB,hx,hBy,.inr (.inr rfl),fun _=>rfl,fun V h=>by cases h⟩
 | some V =>
  obtain ⟨Vx,hVx,hx⟩:=Lv.off_known hsv.toSw hp (by omega) hyo hV
  obtain ⟨Vy,hVy,hy⟩:=Lv.turn_known hsv.toSw hp hV
  simp only [hV] at hB
  simp only [hVx] at hBx
  simp only [hVy] at hBy
  obtain ⟨x1,x2⟩:=hx a b ha hb
  obtain ⟨y1,y2⟩:=hy a b ha hb
  by_cases hf:ent V a b<far
  ·have hs:=Lv.known_sym hsv.toSw hV ha hb hf
   have fx:ent Vx a b<far:=x1.1 hf
   have fy:ent Vy a b<far:=y1.1 hf
   have fx':ent Vx b a<far:=(hx b a hb ha).1.1 hs
   have fy':ent Vy b a<far:=(hy b a hb ha).1.1 hs
   have l1:=x2 hf
   have l2:=(hx b a hb ha).2 hs
   have l3:=y2 hf
   have l4:=(hy b a hb ha).2 hs
   rw [if_pos hf,span_eq hsv.toSw hV ha hb hs] at hB
   rw [if_pos fx,span_eq hxv.toSw hVx ha hb fx'] at hBx
   rw [if_pos fy,span_eq hyv.toSw hVy ha hb fy',← l3,← l4] at hBy
   exact ⟨0,_,_,_,_,0,hB,hBx,hBy,.inl ⟨rfl,rfl,by omega,by omega⟩,(fun h=>by cases h),fun V' h=>by cases h;exact ⟨fun _=>⟨rfl,rfl,rfl⟩,fun h=>absurd hf h⟩⟩
  ·have fx:¬ ent Vx a b<far:=fun h=>hf (x1.2 h)
   have fy:¬ ent Vy a b<far:=fun h=>hf (y1.2 h)
   rw [if_neg hf] at hB
   rw [if_neg fx] at hBx
   rw [if_neg fy] at hBy
   exact ⟨5,0,0,0,0,5,hB,hBx,hBy,.inr (.inl ⟨rfl,rfl⟩),(fun h=>by cases h),fun V' h=>by cases h;exact ⟨fun h=>absurd h hf,fun _=>rfl⟩⟩
end Go.Av.Lx
end
section
set_option maxRecDepth 100000
namespace Go.Av.Lx
open Go.Lv (Sight Survey Leg Tun Try Stp)
open Go Go.Av Go.Av.Tb Go.Av.Fx Go.Proofs Go.ChangeShapes Go.WideShapes Go.RowKit
def cW (W:World):Cx:=
 {K:=fun b o=>W.cell? ⟨b,o,none⟩,μ:=fun _=>none,τ:=fun _=>none,X:=fun _ _=>none
  XO:=fun b=>match W.heap[b]? with
   | some (.cells _ _ _)=>none
   | o=>o
  sz:=W.heap.size,FZ:=⟨fun _ _=>false,W⟩ }
structure TabOk (W:World):Prop where
 tab:∀ i,i<20→W.cell? ⟨tabB,i,none⟩=some (tabV i)
 tsh:∃ t,W.shape? tabB=some (t,20)
theorem cW_st {W:World} (h:TabOk W):StRel (cW W) St.empty W where
 sz:=zN _
 tab:=h.tab
 tsh:=h.tsh
 fr:=Frm.refl W
 K:=fun _ _ _ e=>e
 X:=fun _ _ _ e=>by cases e
 XO:=fun b ob e=>by
  simp only [cW] at e
  split at e
  ·cases e
  ·rename_i hn
   exact ⟨e,fun cs t f he=>hn cs t f (by rw [e,he])⟩
 F:=fun _ _ e=>by cases e
 dom:=fun _ _ e=>by cases e
 tdom:=fun _ _ e=>by cases e
 blk:=fun i B e=>by simp [St.empty] at e
 inj:=fun i j Bi Bj n e=>by simp [St.empty] at e
 tok:=fun k hk=>by cases hk
 tinj:=fun k k' b lo hi lo' hi' hk=>by cases hk
 tblk:=fun k i b lo hi B hk=>by cases hk
 tfr:=fun k b lo hi hk=>by cases hk
structure Keep (W W':World):Prop where
 os:W'.os=W.os
 out:W'.output=W.output
 block:∀ k,k<W.heap.size→W'.heap[k]? = W.heap[k]?
theorem keep_of {W W':World} {c':Cx} {S':St} (hle:(cW W).le c') (h:StRel c' S' W'):Keep W W':=by
 have hfr:Go.Av.Frm W W':=by have:=h.fr;rw [hle.FZ] at this;exact this
 refine ⟨hfr.os,hfr.out,fun k hk => ?_⟩
 have hob:W.heap[k]? = some W.heap[k]:=qC hk
 rw [hob]
 cases ho:W.heap[k] with
 | cells cs t fr =>
  rw [ho] at hob
  obtain ⟨cs',e1,e2⟩:=hfr.blk k cs t fr hob
  rw [e1]
  congr 2
  apply Array.ext
  ·exact e2
  ·intro j h1 h2
   have hc:W.cell? ⟨k,j,none⟩=some cs[j]:=by
    unfold World.cell?
    simp [hob,h2]
   have:=h.K k j _ (hle.K k j _ hc)
   unfold World.cell? at this
   simp [e1,h1] at this
   exact this
 | _ =>
  rw [ho] at hob
  exact (h.XO k _ (by rw [hle.XO];simp only [cW,hob])).1
theorem Keep.keptBut {W W':World} (h:Keep W W') (may:MemPlace→Prop):W.keptBut W' may:=by
 refine ⟨h.os,h.out,fun i hi => ?_⟩
 rw [h.block i hi,qC hi]
 cases W.heap[i] with
 | cells c t fr=>exact ⟨rfl,rfl,rfl,fun _ _=>rfl⟩
 | map es clock=>exact .inr ⟨rfl,rfl⟩
 | _=>rfl
theorem Keep.same {W W':World} (h:Keep W W') {p:MemPlace} (hp:p.block<W.heap.size):W.sameAt W' p:=by
 cases p with
 | cell b o=>exact World.cell?_of_block (w:=W) (h.block b hp)
 | map b=>exact h.block b hp
theorem Keep.trod {H:Type} {enc:TypeId × Value→H} {P:Program} {t:TypeId} (hl:laidOutB P=true) (hr:P.readableRec t=true) (hrow:t<P.types.size) {W W':World} {v:Value} {d:DataW H} {ps:List MemPlace}
  (h:DataW.Trod enc P W 0 (fun _=>true) true t v d ps) (hb:Keep W W') (hlt:∀ x∈ps,x.block<W.heap.size) :
  DataW.Trod enc P W' 0 (fun b=>decide (b<W.heap.size)) true t v d ps:=
 WideElems.Trod_stays hl hr hrow h (fun x hx=>hb.same (hlt x hx)) (fun x hx=>by simpa using hlt x hx)
theorem law_calls {f:FuncId} {args:List AV} {W:World} {vs:List Value} (h:PC Tryz.prog f args (.pure (.bool true))) (ht:TabOk W) (hl:LRel (cW W) args vs) :
  Calls Tryz.prog f vs.toArray W fun e W'=>e=.returned (.bool true)∧Keep W W':=by
 refine (h (cW W) St.empty W vs (cW_st ht) hl).mono ?_
 rintro e W' ⟨x,rfl,c',hle,_,_,hst,hv⟩
 refine ⟨?_,keep_of hle hst⟩
 cases hv;rfl
theorem cells_of {W:World} {b off:Nat} {l:List AV} {n cap:Nat} (hc:n≤cap) (h:∀ j x,l[j]? = some x → ∃ v,W.cell? ⟨b,off+j,none⟩=some v∧VRel (cW W) x v):VRel (cW W) (.slice l n .unk) (.slice (some ⟨b,off,none⟩) n cap):=by
 have get:∀ j (hj:j<l.length),∃ v,W.cell? ⟨b,off+j,none⟩=some v∧VRel (cW W) l[j] v:=fun j hj=>h j _ (zF hj)
 refine .slice l n .unk b off cap (fun j=>(W.cell? ⟨b,off+j,none⟩).getD default) hc (fun j hj => ?_) (fun j x hx => ?_) (fun e=>by cases e) (fun k e=>by cases e)
 ·obtain ⟨v,h1,h2⟩:=get j hj
  show W.cell? _=some ((W.cell? _).getD default)
  rw [h1];rfl
 ·obtain ⟨v,h1,h2⟩:=h j x hx
  rw [h1];exact h2
theorem add_at (b off i:Nat):(⟨b,off,none⟩:Addr).add i=⟨b,off+i,none⟩:=add_plain b off i
theorem has_spot {W:World} {base:Nat} {t e:TypeId} {a:Addr} {len cap:Nat} (ht:Tryz.prog.underlying t=some (.slice e)) (h:Cell.okWide Tryz.prog W .any base t (.slice (some a) len cap)):a.spot=none:=by
 simp only [Cell.okWide,ht,Cell.ok] at h
 exact h.2.2.2.1
section
variable {H:Type} {enc:TypeId × Value→H} {W:World} {base:Nat} {fuel:Nat} {x:DataW H × List MemPlace}
theorem av_int {v:Value} (h:DataW.trod enc Tryz.prog W 0 (fun _=>true) true fuel 3 [v]=some x):∃ n:Int,v=.int .i64 n∧(Lit.int .i64 n).wf=true:=by
 obtain ⟨n,hcs,_,hw⟩:=DataW.trod_int Tryz.underlying3 h
 cases hcs
 exact ⟨n,rfl,hw⟩
theorem flat_get {α:Type} {f:α→List AV} {z:Nat} (hz:∀ a,(f a).length=z):∀ (l:List α) (j:Nat) (y:AV),(l.flatMap f)[j]? = some y → ∃ (i q:Nat) (hi:i<l.length),j=i * z+q∧q<z∧(f l[i])[q]? = some y
 | [],j,y,h=>by simp at h
 | c :: l,j,y,h=>by
  rw [qX] at h
  by_cases hj:j<z
  ·rw [qJ (by rw [hz];exact hj)] at h
   exact ⟨0,j,by simp,by omega,hj,h⟩
  ·rw [zZ (by rw [hz];omega),hz] at h
   obtain ⟨i,q,hi,e1,e2,e3⟩:=flat_get hz l _ y h
   refine ⟨i+1,q,by simpa using hi, ?_,e2,e3⟩
   rw [Nat.add_mul];omega
theorem av_rows {α:Type} (dflt:α) (f:α→List AV) {z by':Nat} (hz:∀ a,(f a).length=z) {t e:TypeId} (hu:Tryz.prog.underlying t=some (.slice e)) (hc:Tryz.prog.cellsOf e=z) (h8:Tryz.prog.bytesOf e=by') (hb:1≤by')
  (one:∀ {n:Nat} {y:DataW H × List MemPlace} {cs:List Value},DataW.trod enc Tryz.prog W 0 (fun _=>true) true n e cs=some y → ∃ a:α,LRel (cW W) (f a) cs)
  {v:Value} (h:DataW.trod enc Tryz.prog W 0 (fun _=>true) true fuel t [v]=some x) (hw:∀ n∈x.1.weights Tryz.prog t,n≤reachBytes) (hok:Cell.okWide Tryz.prog W .any base t v):∃ l:List α,VRel (cW W) (.slice (l.flatMap f) l.length .unk) v∧okL l.length:=by
 rcases Go.Deep.open_slice hu h with ⟨hcs,_⟩ | ⟨a,len,cap,m,n,D,Pl,hcs,_,hl,hm,hmm,hxx,hx⟩
 ·cases hcs
  exact ⟨[],.sliceNil .unk (fun k e=>by cases e),Nat.zero_lt_succ _⟩
 ·cases hcs
  have hsp:=has_spot hu hok
  obtain ⟨b,off,spot⟩:=a
  simp only at hsp
  subst hsp
  have hmc:m=cap:=by simpa using hmm
  rw [hc] at hx
  have each:∀ i,i<len → ∃ c:α,∀ (q:Nat) (y:AV),(f c)[q]? = some y → ∃ u,W.cell? ⟨b,off+(i * z+q),none⟩=some u∧VRel (cW W) y u:=by
   intro i hi
   obtain ⟨cs',h1,h2⟩:=hx i (by omega)
   obtain ⟨c,hr⟩:=one h2
   obtain ⟨_,hcl,hcell⟩:=World.cells?_some h1
   refine ⟨c,fun q y hy => ?_⟩
   obtain ⟨u,hu',hru⟩:=hr.get hy
   have hq:q<cs'.length:=by
    rcases zV q cs'.length with h' | h'
    ·exact h'
    ·rw [zO h'] at hu';cases hu'
   have hcq:=hcell q (by omega)
   rw [add_at,add_at,Nat.add_assoc] at hcq
   refine ⟨u, ?_,hru⟩
   rw [hcq]
   exact hu'
  obtain ⟨F,hF⟩:∃ F:Nat→α,∀ i,i<len → ∀ (q:Nat) (y:AV),(f (F i))[q]? = some y → ∃ u,W.cell? ⟨b,off+(i * z+q),none⟩=some u∧VRel (cW W) y u:=
   ⟨fun i=>if hi:i<len then (each i hi).choose else dflt,fun i hi=>by
    show ∀ (q:Nat) (y:AV),(f (if hi:i<len then (each i hi).choose else dflt))[q]? = some y→_
    rw [dif_pos hi];exact (each i hi).choose_spec⟩
  have hlen:((List.range len).map F).length=len:=by simp
  have hsize:len<9223372036854775807:=by
   subst hxx
   have:=hw ((((List.range len).map D).length+((List.range (m - len)).map fun j=>D (len+j)).length) * by') (by
    simp only [DataW.weights,hu,h8]
    exact zP)
   rw [List.length_map,List.length_range] at this
   have h3:len * 1≤(len+((List.range (m - len)).map fun j=>D (len+j)).length) * by':=Nat.mul_le_mul (by omega) hb
   unfold reachBytes at this
   omega
  refine ⟨(List.range len).map F, ?_,by rw [hlen];exact hsize⟩
  rw [hlen]
  refine cells_of hl fun j y hy => ?_
  obtain ⟨i,q,hi,rfl,_,e3⟩:=flat_get hz _ j y hy
  rw [hlen] at hi
  have e4:((List.range len).map F)[i]=F i:=by simp
  rw [e4] at e3
  exact hF i hi q y e3
theorem av_sight {n:Nat} {y:DataW H × List MemPlace} {cs:List Value} (h:DataW.trod enc Tryz.prog W 0 (fun _=>true) true n 85 cs=some y):∃ a:Sight,LRel (cW W) (sgtC a) cs:=by
 obtain ⟨xs,n,_,_,hl,hlen,hf⟩:=DataW.trod_struct Tryz.underlying85 h
 have hc:Tryz.prog.cellsOf 85=4:=by kernel_rfl
 have hc3:Tryz.prog.cellsOf 3=1:=by kernel_rfl
 have hc4:Tryz.prog.cellsOf 4=1:=by kernel_rfl
 rw [hc] at hl
 match cs,hl with
 | [a0,a1,a2,a3],_ =>
  match xs,hlen with
  | [y0,y1,y2,y3],_ =>
   have h0:DataW.trod enc Tryz.prog W 0 (fun _=>true) true n 3 (([a0,a1,a2,a3].drop 0).take (Tryz.prog.cellsOf 3))=some y0:=hf 0 _ rfl
   rw [hc3] at h0
   have h1:DataW.trod enc Tryz.prog W 0 (fun _=>true) true n 3 (([a0,a1,a2,a3].drop 1).take (Tryz.prog.cellsOf 3))=some y1:=hf 1 _ rfl
   rw [hc3] at h1
   have h2:DataW.trod enc Tryz.prog W 0 (fun _=>true) true n 3 (([a0,a1,a2,a3].drop 2).take (Tryz.prog.cellsOf 3))=some y2:=hf 2 _ rfl
   rw [hc3] at h2
   have h3:DataW.trod enc Tryz.prog W 0 (fun _=>true) true n 3 (([a0,a1,a2,a3].drop 3).take (Tryz.prog.cellsOf 3))=some y3:=hf 3 _ rfl
   rw [hc3] at h3
   obtain ⟨p0,rfl,_⟩:=av_int h0
   obtain ⟨p1,rfl,_⟩:=av_int h1
   obtain ⟨p2,rfl,_⟩:=av_int h2
   obtain ⟨p3,rfl,_⟩:=av_int h3
   exact ⟨⟨p0,p1,p2,p3⟩,(LRel.cons (.int _ _) (LRel.cons (.int _ _) (LRel.cons (.int _ _) (LRel.cons (.int _ _) (LRel.nil _)))))⟩
end
section
variable {H:Type} {enc:TypeId × Value→H} {W:World} {base:Nat}
theorem av_sightA {v:Value} {d:DataW H} {ps:List MemPlace} (h:DataW.Trod enc Tryz.prog W 0 (fun _=>true) true 85 v d ps) (hw:∀ n∈d.weights Tryz.prog 85,n≤reachBytes) (hok:Value.okWide Tryz.prog W .any base 85 v) :
  ∃ c:Sight,VRel (cW W) (.agg (sgtC c)) v∧True:=by
 obtain ⟨fuel,h⟩:=h
 simp only [Value.okWide,Tryz.underlying85] at hok
 obtain ⟨cs,rfl,hsz,_⟩:=hok
 obtain ⟨c,hc⟩:=av_sight h
 exact ⟨c,VRel.mk_agg hc,trivial⟩
theorem av_survey {v:Value} {d:DataW H} {ps:List MemPlace} (h:DataW.Trod enc Tryz.prog W 0 (fun _=>true) true 24 v d ps) (hw:∀ n∈d.weights Tryz.prog 24,n≤reachBytes) (hok:Value.okWide Tryz.prog W .any base 24 v) :
  ∃ s:Survey,VRel (cW W) (surA s) v∧okL s.sights.length:=by
 obtain ⟨fuel,h⟩:=h
 simp only [Value.okWide,Tryz.underlying24] at hok
 obtain ⟨cs,rfl,hsz,ts,hts,_,hrow⟩:=hok
 have hc:Tryz.prog.cellsOf 24=2:=by kernel_rfl
 rw [hc] at hsz
 obtain ⟨c0,c1,rfl⟩:∃ c0 c1,cs=#[c0,c1]:=by
  obtain ⟨l⟩:=cs
  match l,hsz with
  | [c0,c1],_=>exact ⟨c0,c1,rfl⟩
 have hts':Go.Program.cellTypes Tryz.prog Tryz.prog.depth 24=some [3,22]:=by kernel_rfl
 rw [hts'] at hts
 cases hts
 have k1:Cell.okWide Tryz.prog W .any base 22 c1:=by
  obtain ⟨u,e,hu⟩:=hrow 1 c1 rfl
  cases e;exact hu
 obtain ⟨xs,n,_,hd,hl,hlen,hf⟩:=DataW.trod_struct Tryz.underlying24 h
 have hc3:Tryz.prog.cellsOf 3=1:=by kernel_rfl
 have hc22:Tryz.prog.cellsOf 22=1:=by kernel_rfl
 match xs,hlen with
 | [y0,y1],_ =>
  have h0:DataW.trod enc Tryz.prog W 0 (fun _=>true) true n 3 (([c0,c1].drop 0).take (Tryz.prog.cellsOf 3))=some y0:=hf 0 _ rfl
  have h1:DataW.trod enc Tryz.prog W 0 (fun _=>true) true n 22 (([c0,c1].drop 1).take (Tryz.prog.cellsOf 22))=some y1:=hf 1 _ rfl
  rw [hc3] at h0
  rw [hc22] at h1
  cases hd
  have hw':∀ (j:Nat) (t:TypeId) (d:DataW H),[3,22][j]? = some t→[y0.1,y1.1][j]? = some d → ∀ n∈d.weights Tryz.prog t,n≤reachBytes:=fun j t d ht hd n hn=>by
   refine hw n ?_
   simp only [DataW.weights,Tryz.underlying24]
   exact DataW.weights_mem_each (ts:=[3,22]) ht hd n hn
  obtain ⟨p,rfl,_⟩:=av_int h0
  obtain ⟨g,hg,og⟩:=av_rows (z:=4) (by':=32) (⟨0,0,0,0⟩:Sight) sgtC (fun _=>rfl) Tryz.underlying22 (by kernel_rfl) (by kernel_rfl) (by decide) (fun h=>av_sight h) h1 (hw' 1 _ _ rfl rfl) k1
  refine ⟨⟨p,g⟩,VRel.mk_agg ?_,og⟩
  exact LRel.cons (.int _ _) (LRel.cons hg (LRel.nil _))
end
end Go.Av.Lx
end
