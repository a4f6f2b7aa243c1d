/- Part 24 of the proof. -/
import Derived.Test.YtclmbbofpaecaaaGreatDoorVu23
import Derived.Test.YtclmbbofpaecaaaGreatDoorVu3
import Derived.Test.YtclmbbofpaecaaaGreatDoorVu17
import Derived.Test.YtclmbbofpaecaaaGreatDoorVu14
set_option linter.all false
set_option linter.unusedVariables false
set_option linter.unusedSimpArgs false
set_option linter.unusedSectionVars false
open Bool renaming and_self → zJ, not_true → zX, not_false → qF
open ByteArray renaming size_append → qJ
open Int renaming tmod_eq_emod_of_nonneg → qV, tdiv_eq_ediv_of_nonneg → yA, mul_nonneg → yK
open List renaming getElem?_eq_getElem → zF, set_cons_succ → zG, set_cons_zero → zH, getD_eq_getElem?_getD → zI, all_cons → zK, all_nil → zM, mem_cons_self → zO, mem_cons_of_mem → zQ, length_cons → zT, getElem_mem → qA, length_append → qE, take_succ_eq_append_getElem → qG, mem_singleton → qL, map_append → qP, take_length → qY, not_mem_nil → yE, range_succ → yI, mem_cons → yL
open Nat renaming reduceLeDiff → zA, reduceEqDiff → zB, reduceAdd → zC, reduceBEq → zD, le_of_ble_eq_true → zE, le_refl → zN, zero_le → qI, mul_one → yO
open Option renaming map_some → zV
section
set_option maxHeartbeats 2000000
namespace Go.Av.Lx
open Go Go.Av Go.Av.Tb Go.Av.Fx Go.Proofs
open Go.Lv (Sight Survey Sw Sv SightOk keepS zAq blamesS dropsS possS)
open Go.Fw (Sq ent Bd Mat)
theorem without_pc (s:Survey) (hl:s.sights.length≤100) (w:List Int) (hw:okL w.length):PC Tryz.prog 119 [surA s,sl w] (.pure (surA (zAq s w))):=by
 refine PC.of_frz (AC.run (E_ok _) mix Tryz.func119 m119 rfl rfl rfl (zE rfl) ?_) (by simp [bndL,AV.bnd]) (by simp [bndL,AV.bnd])
 have bd24:∀ a,buildA T 24 [(0,.int .i64 a)]=some (.agg [.int .i64 a,.nilS]):=fun a=>rfl
 simp only [go_sem,boxA,zAa,bd24,zAd,AV.cells,AV.one,zK,zM,zJ,splice,zH,zG,and_self,zB,zD,zC,reduceIte,reduceCtorEq,zA]
 refine zAs (fun m ts' S' => ∃ k W nt tk X,k≤s.sights.length∧m=s.sights.length - k∧ts'=[(1,sl w),(4,.ref 1 0),(5,.ref 2 0),(12,.slice (sgts s.sights) s.sights.length .unk),(13,.int .i64 s.sights.length),(14,.int .i64 (k:Nat))]∧S'=⟨[some (.cells (surC s)),some (.cells [.int .i64 0,.nilS]),some (.cells [.int .i64 s.stations,W])] ++ X,nt,tk⟩∧Own (sgts (keepS s w k)) (keepS s w k).length W nt tk) s.sights.length ⟨0,.nilS,0,[],[],qI _,rfl,rfl,rfl,Own.nil _ _⟩ ?_
 rintro m ts' S' ⟨k,W,nt,tk,X,hk,rfl,rfl,rfl,ho⟩
 have c1:=fun q=>zAf X q
 have c2:=fun x B=>zAt X x B
 by_cases hkl:k<s.sights.length
 ·have k1:(k:Int)<s.sights.length:=by omega
  have k2:0≤(k:Int)∧(k:Int)<s.sights.length:=by omega
  have k3:k * 4+4≤(sgts s.sights).length:=by rw [zAx];omega
  have k4:IntKind.i64.wrap ((k:Int)+1)=(k+1:Nat):=wrap64 (by omega)
  have k5:=zBy s.sights k hkl
  have hks:=Lv.keep_succ s w k
  have hg:s.sights.getD k Lv.sightZ=s.sights[k]:=by rw [zI,zF hkl];rfl
  have hkl2:=Lv.keep_len s w k
  rw [hg] at hks
  generalize s.sights[k]=x at *
  simp only [go_sem,l119_0,k1,decide_true,k2,k3,k5,zAg,and_self,c1,c2,zAd,AV.cells,AV.one,zK,zM,zJ,splice,zH,zG,zB,zD,zC,reduceIte,reduceCtorEq,zA]
  refine cp n160 (contains_pc w hw k) (SubL.refl _) ?_
  cases hc:w.contains (k:Int)
  ·rw [hc,if_neg (by decide)] at hks
   simp only [go_sem,zAi,qF,c1,zAa,zB,zD,zC,reduceIte,reduceCtorEq,zA]
   refine zCr (lx:=sgtC x) zDr ho (by rw [zAx];omega) rfl (by decide) rfl (by omega) fun W' tk' g => ?_
   obtain ⟨q1,q2⟩:=g.own.cells
   simp only [go_sem,q1,q2,zAd,zK,zM,zJ,splice,zH,zG,and_self,k4,zB,zD,zC,reduceIte,reduceCtorEq,zA]
   refine zAh (s.sights.length - (k+1)) (by omega) ⟨k+1,W',nt+1,tk',_,hkl,rfl,rfl,rfl, ?_⟩
   have:=g.own
   rw [zFb] at this
   rw [hks,qE,List.length_singleton]
   exact this
  ·rw [hc,if_pos rfl] at hks
   simp only [go_sem,zAi,zX,k4,zB,zD,zC,reduceIte,reduceCtorEq,zA]
   exact zAh (s.sights.length - (k+1)) (by omega) ⟨k+1,W,nt,tk,_,hkl,rfl,rfl,rfl,by rw [hks];exact ho⟩
 ·have k1:¬ (k:Int)<s.sights.length:=by omega
  have ek:k=s.sights.length:=by omega
  subst ek
  have hfz:=fun H=>ho.frz H
  rcases ho with ⟨rfl,_,_⟩ | ⟨q,rfl,_,_⟩
  ·simp only [go_sem,l119_0,k1,decide_false,zAd,AV.cells,AV.one,zK,zM,zJ,splice,zH,zG,and_self,Tryz.f119,zB,zD,zC,reduceIte,reduceCtorEq,zA]
   exact ⟨_,rfl,zDk (.same _) (hfz _)⟩
  ·simp only [go_sem,l119_0,k1,decide_false,zAd,AV.cells,AV.one,zK,zM,zJ,splice,zH,zG,and_self,Tryz.f119,zB,zD,zC,reduceIte,reduceCtorEq,zA]
   exact ⟨_,rfl,zDk (.same _) (hfz _)⟩
def blamesA (s:Survey):AV:=if zAp s=true then .tuple [sl (blamesS s),.int .i64 0] else .tuple [.nilS,.int .i64 2]
theorem blamesA_bnd (s:Survey):(blamesA s).bnd 0 0=true:=by
 unfold blamesA
 split
 ·simp [AV.bnd,bndL]
 ·rfl
def blamesK (s:Survey) (k:Nat):List Int:=((List.range k).filter fun (i:Nat)=>possS (zAq s [(i:Int)])).map fun (i:Nat)=>(i:Int)
theorem blamesK_succ (s:Survey) (k:Nat):blamesK s (k+1)=if possS (zAq s [(k:Int)])=true then blamesK s k ++ [(k:Int)] else blamesK s k:=by
 unfold blamesK
 rw [yI,List.filter_append,qP]
 cases h:possS (zAq s [(k:Int)]) <;> simp [h]
theorem blamesK_len (s:Survey) (k:Nat):(blamesK s k).length≤k:=by
 unfold blamesK;rw [List.length_map];exact Nat.le_trans (List.length_filter_le _ _) (by simp)
theorem Blames_pc (s:Survey) (hl:okL s.sights.length):PC Tryz.prog 51 [surA s] (.pure (blamesA s)):=by
 refine PC.of_frz (AC.run (E_ok _) mix Tryz.func51 m51 rfl rfl rfl (zE rfl) ?_) (by simp [bndL,AV.bnd]) (blamesA_bnd s)
 unfold blamesA
 simp only [go_sem,boxA,zB,zD,zC,reduceIte,reduceCtorEq,zA]
 refine cp n89 (zBp s hl) (SubL.refl _) ?_
 cases hs:zAp s
 ·simp only [go_sem,zAi,qF,Tryz.f51,zB,zD,zC,reduceIte,reduceCtorEq,zA]
  exact ⟨_,rfl,.same _⟩
 have hv:=zDp.1 hs
 have hm:=hv.many
 rw [if_pos rfl]
 simp only [go_sem,zAi,zX,zAa,zB,zD,zC,reduceIte,reduceCtorEq,zA]
 refine zAs (fun m ts' S' => ∃ k W nt tk,k≤s.sights.length∧m=s.sights.length - k∧ts'=[(1,.ref 0 0),(4,W),(11,.int .i64 s.sights.length),(12,.int .i64 (k:Nat))]∧S'=⟨[some (.cells (surC s))],nt,tk⟩∧Own (ints (blamesK s k)) (blamesK s k).length W nt tk) s.sights.length ⟨0,.nilS,0,[],qI _,rfl,rfl,rfl,Own.nil _ _⟩ ?_
 rintro m ts' S' ⟨k,W,nt,tk,hk,rfl,rfl,rfl,ho⟩
 by_cases hkl:k<s.sights.length
 ·have k1:(k:Int)<s.sights.length:=by omega
  have k4:IntKind.i64.wrap ((k:Int)+1)=(k+1:Nat):=wrap64 (by omega)
  have hks:=blamesK_succ s k
  have hbl:=blamesK_len s k
  have hwp:=without_pc s (by omega) [(k:Int)] (by show 1<9223372036854775807;decide)
  have hsw:=Lv.without_sv hv [(k:Int)]
  have hpp:=zEh (zAq s [(k:Int)]) hsw.toSw (by have:=hsw.many;omega)
  simp only [go_sem,l51_0,k1,decide_true,zB,zD,zC,reduceIte,reduceCtorEq,zA]
  refine cp n119 hwp (SubL.cons (Sub.refl _) (SubL.cons (Sub.unk _ 1 .exact) (SubL.refl []))) ?_
  simp only [go_sem,zB,zD,zC,reduceIte,reduceCtorEq,zA]
  refine cp n107 hpp (SubL.refl _) ?_
  cases hp:possS (zAq s [(k:Int)])
  ·rw [hp,if_neg (by decide)] at hks
   simp only [go_sem,k4,zB,zD,zC,reduceIte,reduceCtorEq,zA]
   exact zAh (s.sights.length - (k+1)) (by omega) ⟨k+1,W,nt,tk,hkl,rfl,rfl,rfl,by rw [hks];exact ho⟩
  ·rw [hp,if_pos rfl] at hks
   simp only [go_sem,zAa,zB,zD,zC,reduceIte,reduceCtorEq,zA]
   refine zCr (lx:=[.int .i64 k]) rowInts ho (by simp) rfl (by decide) rfl (by omega) fun W' tk' g => ?_
   simp only [go_sem,k4,zB,zD,zC,reduceIte,reduceCtorEq,zA]
   refine zAh (s.sights.length - (k+1)) (by omega) ⟨k+1,W',nt+1,tk',hkl,rfl,rfl,rfl, ?_⟩
   have:=g.own
   rw [show [AV.int .i64 (k:Int)]=ints [(k:Int)] from rfl,ints_app] at this
   rw [hks,qE,List.length_singleton]
   exact this
 ·have k1:¬ (k:Int)<s.sights.length:=by omega
  have ek:k=s.sights.length:=by omega
  subst ek
  simp only [go_sem,l51_0,k1,decide_false,Tryz.f51,zB,zD,zC,reduceIte,reduceCtorEq,zA]
  exact ⟨_,rfl,Frz.two (ho.frz _) (.same _)⟩
end Go.Av.Lx
end
section
set_option maxHeartbeats 2000000
namespace Go.Av.Lx
open Go Go.Av Go.Av.Tb Go.Av.Fx Go.Proofs
open Go.Lv (Sight Survey Sw Sv SightOk keepS zAq dropsS possS searchM shortM firstI dropM)
open Go.Fw (Sq ent Bd Mat)
abbrev drF:AV:=.func (.func 118) [] [.ref 1 0,.ref 0 0,.ref 2 0]
def DrSt (s:Survey) (out:AV) (S:St):Prop:=∃ ex,S.heap=some (.cells (surC s)) :: some (.cells [out]) :: some (.cells [drF]) :: ex
theorem DrSt.at {s:Survey} {out:AV} {S:St} (h:DrSt s out S):cellsAt S.heap 0=some (surC s)∧cellsAt S.heap 1=some [out]∧cellsAt S.heap 2=some [drF]:=by
 obtain ⟨ex,h⟩:=h
 rw [h]
 exact ⟨rfl,rfl,rfl⟩
theorem DrSt.set {s:Survey} {out:AV} {S:St} (h:DrSt s out S) (v:AV):DrSt s v { S with heap:=setH S.heap 1 (.cells [v]) }:=by
 obtain ⟨ex,h⟩:=h
 refine ⟨ex, ?_⟩
 show setH S.heap _ _=_
 rw [h];rfl
theorem zCa {β:Type} (f:Nat→Option β) (n r:Nat):firstI f n (r+1)=match f n with | some x=>some x | none=>firstI f (n+1) r:=rfl
theorem drops1_ac (s:Survey) (hv:Sv s) :
  ∀ (many:Nat) (now:List Int) (v:AV) (fr:Nat) (S:St) (out:AV),IsL v now→DrSt s out S→now.length+many≤s.sights.length→fr≤1000000 →
   AC Tryz.prog 118 [v,.int .i64 fr,.int .i64 many,.ref 1 0,.ref 0 0,.ref 2 0] S fun e S' =>
    match searchM (fun w=>possS (zAq s w)) s.sights.length many now fr with
    | some r=>e=.ret (.bool true) ∧ ∃ v',IsL v' r∧DrSt s v' S'
    | none=>e=.ret (.bool false) ∧ ∃ v',DrSt s v' S':=by
 have hb:=hv.many
 obtain ⟨below,hbelow⟩:∃ b,b=s.sights.length:=⟨_,rfl⟩
 rw [← hbelow] at hb ⊢
 intro many
 induction many with
 | zero =>
  intro now v fr S out hvl hS hlen hfr
  refine AC.run (Es_ok 39 S) mix Tryz.func118 m118 rfl rfl rfl (zE rfl) ?_
  have hz:decide (((0:Nat):Int)=0)=true:=rfl
  obtain ⟨c0,c1,c2⟩:=hS.at
  have o1:=hvl.one
  have cv:=cells_one o1
  have hS1:=hS.set v
  obtain ⟨d0,d1,d2⟩:=hS1.at
  have hwp:=without_pc s (by omega) now (by show now.length<9223372036854775807;omega)
  have hsw:=Lv.without_sv hv now
  have hpp:=zEh (zAq s now) hsw.toSw (by have:=hsw.many;omega)
  simp only [go_sem,hz,c0,c1,c2,o1,cv,zAd,zK,zM,zJ,splice,zH,zG,and_self,d0,d1,d2,zB,zD,zC,reduceIte,reduceCtorEq,zA]
  refine zCd (E:=Es 39 S) n119 hwp (SubL.cons (Sub.refl _) (SubL.cons hvl.sub (SubL.refl []))) ?_
  simp only [go_sem,zB,zD,zC,reduceIte,reduceCtorEq,zA]
  refine zCd (E:=Es 39 S) n107 hpp (SubL.refl _) ?_
  simp only [go_sem,Tryz.f118,zB,zD,zC,reduceIte,reduceCtorEq,zA]
  unfold searchM
  cases hp:possS (zAq s now)
  ·rw [if_neg (by decide)]
   exact ⟨rfl,v,hS1⟩
  ·rw [if_pos rfl]
   exact ⟨rfl,v,hvl,hS1⟩
 | succ many ih =>
  intro now v fr S out hvl hS hlen hfr
  refine AC.run (Es_ok 39 S) mix Tryz.func118 m118 rfl rfl rfl (zE rfl) ?_
  have hz:decide (((many+1:Nat):Int)=0)=false:=by rw [decide_eq_false_iff_not];omega
  obtain ⟨F,hF⟩:∃ F:Nat→Option (List Int),F=fun n:Nat=>searchM (fun w=>possS (zAq s w)) below many (now ++ [(n:Int)]) (n+1):=⟨_,rfl⟩
  have hsm:searchM (fun w=>possS (zAq s w)) below (many+1) now fr=firstI F fr (below+1 - (fr+(many+1))):=by rw [hF];rfl
  rw [hsm]
  simp only [go_sem,hz,zB,zD,zC,reduceIte,reduceCtorEq,zA]
  refine zAs (fun n ts S' => ∃ k out',n=(below+1 - (fr+(many+1))) - k∧k≤below+1 - (fr+(many+1))∧ts=[(0,v),(2,.int .i64 (many+1:Nat)),(4,.ref 0 0),(5,.ref 2 0),(10,.int .i64 (fr+k:Nat))]∧DrSt s out' S' ∧
   firstI F fr (below+1 - (fr+(many+1)))=firstI F (fr+k) ((below+1 - (fr+(many+1))) - k)) (below+1 - (fr+(many+1))) ⟨0,out,rfl,qI _,rfl,hS,rfl⟩ ?_
  rintro n ts S' ⟨k,out',hn,hk,rfl,hS',hres⟩
  obtain ⟨c0,c1,c2⟩:=hS'.at
  have w0:IntKind.i64.wrap (((fr+k:Nat):Int)+((many+1:Nat):Int))=(fr+k+(many+1):Nat):=by rw [wrap64 (by omega)];omega
  by_cases h':fr+k+(many+1)≤below
  ·have h1:((fr+k+(many+1):Nat):Int)≤s.sights.length:=by omega
   obtain ⟨r,hr⟩:∃ r,(below+1 - (fr+(many+1))) - k=r+1:=⟨(below+1 - (fr+(many+1))) - k - 1,by omega⟩
   rw [hr] at hres
   rw [zCa] at hres
   have eF:F (fr+k)=searchM (fun w=>possS (zAq s w)) below many (now ++ [((fr+k:Nat):Int)]) (fr+k+1):=by rw [hF]
   have w1:IntKind.i64.wrap (((fr+k:Nat):Int)+1)=(fr+k+1:Nat):=wrap64 (by omega)
   have w2:IntKind.i64.wrap (((many+1:Nat):Int) - 1)=(many:Nat):=by rw [wrap64 (by omega)];omega
   have ih':=fun v S hvl hS=>ih (now ++ [((fr+k:Nat):Int)]) v (fr+k+1) S out' hvl hS (by simp;omega) (by omega)
   rw [← eF] at ih'
   cases hvl with
   | nil =>
    simp only [go_sem,l118_0,c0,w0,h1,decide_true,zAa,zB,zD,zC,reduceIte,reduceCtorEq,zA]
    simp only [go_sem,c2,zB,zD,zC,reduceIte,reduceCtorEq,zA]
    refine zBq (E:=Es 39 S) n120 clone_nil (SubL.refl _) ?_
    have eN:appendA T S' 32 .nilS (.slice [.int .i64 (fr+k:Nat)] 1 .exact)=some (.tok none fun j=>.slice [.int .i64 (fr+k:Nat)] 1 (.tok j)):=rfl
    simp only [go_sem,w1,w2,zAa,eN,zB,zD,zC,reduceIte,reduceCtorEq,zA]
    refine zCe (E:=Es 39 S) n118 (ih' _ _ (show IsL (.slice (ints [((fr+k:Nat):Int)]) [((fr+k:Nat):Int)].length (.tok S'.nt)) _ from .row _ _ (by simp)) hS') ?_ ?_
    ·intro x S2 hR
     cases hq:F (fr+k) with
     | some rr =>
      rw [hq] at hR hres
      obtain ⟨hx,v',hv',hS2⟩:=hR
      cases hx
      simp only [go_sem,Tryz.f118,zB,zD,zC,reduceIte,reduceCtorEq,zA]
      rw [hres]
      exact ⟨v',hv',hS2⟩
     | none =>
      rw [hq] at hR hres
      obtain ⟨hx,v',hS2⟩:=hR
      cases hx
      simp only [go_sem,w1,zB,zD,zC,reduceIte,reduceCtorEq,zA]
      exact zAh ((below+1 - (fr+(many+1))) - (k+1)) (by omega) ⟨k+1,v',rfl,by omega,rfl,hS2,by rw [hres,show (below+1 - (fr+(many+1))) - (k+1)=r by omega];rfl⟩
    ·intro x S2 hR
     exfalso
     revert hR
     split
     ·exact fun hh=>nomatch hh.1
     ·exact fun hh=>nomatch hh.1
   | row _ t hne =>
    simp only [go_sem,l118_0,c0,w0,h1,decide_true,zAa,zB,zD,zC,reduceIte,reduceCtorEq,zA]
    simp only [go_sem,c2,zB,zD,zC,reduceIte,reduceCtorEq,zA]
    refine callq_tok (E:=Es 39 S) n120 (clone_pc now (by omega) hne) (SubL.cons (Sub.unk _ _ _) (SubL.refl [])) ?_
    have eN:appendA T S' 32 (.slice (ints now) now.length (.tok S'.nt)) (.slice [.int .i64 (fr+k:Nat)] 1 .exact)=some (.tok (some S'.nt) fun j=>.slice (ints now ++ [.int .i64 (fr+k:Nat)]) (now.length+1) (.tok j)):=
     zCt (e:=3) (ei:=ti3) (lx:=[.int .i64 (fr+k:Nat)]) (nx:=1) (tl:=.tok S'.nt) rfl rfl (by decide) rfl (by decide) rfl (by simp [ti3];omega) (by omega) (by simp [ti3])
    simp only [go_sem,w1,w2,zAa,eN,zB,zD,zC,reduceIte,reduceCtorEq,zA]
    refine ⟨zO, ?_⟩
    have elist:ints now ++ [.int .i64 (fr+k:Nat)]=ints (now ++ [((fr+k:Nat):Int)]):=by simp [ints]
    have elen:now.length+1=(now ++ [((fr+k:Nat):Int)]).length:=by simp
    rw [elist,elen]
    refine zCe (E:=Es 39 S) n118 (ih' _ _ (.row _ _ (by simp)) hS') ?_ ?_
    ·intro x S2 hR
     cases hq:F (fr+k) with
     | some rr =>
      rw [hq] at hR hres
      obtain ⟨hx,v',hv',hS2⟩:=hR
      cases hx
      simp only [go_sem,Tryz.f118,zB,zD,zC,reduceIte,reduceCtorEq,zA]
      rw [hres]
      exact ⟨v',hv',hS2⟩
     | none =>
      rw [hq] at hR hres
      obtain ⟨hx,v',hS2⟩:=hR
      cases hx
      simp only [go_sem,w1,zB,zD,zC,reduceIte,reduceCtorEq,zA]
      exact zAh ((below+1 - (fr+(many+1))) - (k+1)) (by omega) ⟨k+1,v',rfl,by omega,rfl,hS2,by rw [hres,show (below+1 - (fr+(many+1))) - (k+1)=r by omega];rfl⟩
    ·intro x S2 hR
     exfalso
     revert hR
     split
     ·exact fun hh=>nomatch hh.1
     ·exact fun hh=>nomatch hh.1
  ·have h1:¬ ((fr+k+(many+1):Nat):Int)≤s.sights.length:=by omega
   rw [show (below+1 - (fr+(many+1))) - k=0 by omega] at hres
   simp only [go_sem,l118_0,c0,w0,h1,decide_false,zAa,Tryz.f118,zB,zD,zC,reduceIte,reduceCtorEq,zA]
   rw [hres]
   exact ⟨out',hS'⟩
def dropsA (s:Survey):AV:=if zAp s=true then .tuple [sl (dropsS s),.int .i64 0] else .tuple [.nilS,.int .i64 2]
theorem dropsA_bnd (s:Survey):(dropsA s).bnd 0 0=true:=by
 unfold dropsA
 split
 ·simp [AV.bnd,bndL]
 ·rfl
theorem Drops_pc (s:Survey) (hl:okL s.sights.length):PC Tryz.prog 50 [surA s] (.pure (dropsA s)):=by
 refine PC.of_frz (AC.run (E_ok _) mix Tryz.func50 m50 rfl rfl rfl (zE rfl) ?_) (by simp [bndL,AV.bnd]) (dropsA_bnd s)
 unfold dropsA
 simp only [go_sem,boxA,zB,zD,zC,reduceIte,reduceCtorEq,zA]
 refine cp n89 (zBp s hl) (SubL.refl _) ?_
 cases hs:zAp s
 ·simp only [go_sem,zAi,qF,Tryz.f50,zB,zD,zC,reduceIte,reduceCtorEq,zA]
  exact ⟨_,rfl,.same _⟩
 have hv:=zDp.1 hs
 have hm:=hv.many
 rw [if_pos rfl]
 have w0:IntKind.i64.wrap ((s.sights.length:Int)+1)=(s.sights.length+1:Nat):=wrap64 (by omega)
 have hd:=Lv.drops_is hv.toSw
 unfold shortM at hd
 simp only [go_sem,zAi,zX,zAa,w0,zAd,AV.cells,AV.one,zK,zM,zJ,splice,zH,zG,and_self,zB,zD,zC,reduceIte,reduceCtorEq,zA]
 refine zAs (fun m ts' S' => ∃ k out,k≤s.sights.length+1∧m=s.sights.length+1 - k∧ts'=[(4,.ref 1 0),(5,.ref 2 0),(14,.int .i64 (s.sights.length+1:Nat)),(15,.int .i64 (k:Nat))]∧DrSt s out S'∧firstI (fun many=>searchM (fun w=>possS (zAq s w)) s.sights.length many [] 0) k (s.sights.length+1 - k)=some (dropsS s)) (s.sights.length+1) ⟨0,.nilS,qI _,rfl,rfl,⟨[],rfl⟩,hd⟩ ?_
 rintro m ts' S' ⟨k,out,hk,rfl,rfl,hS,hf⟩
 obtain ⟨c0,c1,c2⟩:=hS.at
 by_cases hkl:k<s.sights.length+1
 ·have k1:(k:Int)<(s.sights.length+1:Nat):=by omega
  have k4:IntKind.i64.wrap ((k:Int)+1)=(k+1:Nat):=wrap64 (by omega)
  obtain ⟨r,hr⟩:∃ r,s.sights.length+1 - k=r+1:=⟨s.sights.length+1 - k - 1,by omega⟩
  rw [hr] at hf
  rw [zCa] at hf
  simp only [go_sem,l50_0,k1,decide_true,c2,zB,zD,zC,reduceIte,reduceCtorEq,zA]
  refine zCe (E:=E _) n118 (drops1_ac s hv k [] .nilS 0 S' out .nil hS (by simp;omega) (by omega)) ?_ ?_
  ·intro x S2 hR
   cases hq:searchM (fun w=>possS (zAq s w)) s.sights.length k [] 0 with
   | some rr =>
    rw [hq] at hR hf
    obtain ⟨hx,v',hv',hS2⟩:=hR
    cases hx
    cases hf
    obtain ⟨d0,d1,d2⟩:=hS2.at
    simp only [go_sem,d1,Tryz.f50,zB,zD,zC,reduceIte,reduceCtorEq,zA]
    exact ⟨_,rfl,Frz.two (hv'.frz _) (.same _)⟩
   | none =>
    rw [hq] at hR hf
    obtain ⟨hx,v',hS2⟩:=hR
    cases hx
    simp only [go_sem,k4,zB,zD,zC,reduceIte,reduceCtorEq,zA]
    exact zAh (s.sights.length+1 - (k+1)) (by omega) ⟨k+1,v',hkl,rfl,rfl,hS2,by rw [show s.sights.length+1 - (k+1)=r by omega];exact hf⟩
  ·intro x S2 hR
   exfalso
   revert hR
   split
   ·exact fun hh=>nomatch hh.1
   ·exact fun hh=>nomatch hh.1
 ·rw [show s.sights.length+1 - k=0 by omega] at hf
  cases hf
end Go.Av.Lx
end
section
set_option maxHeartbeats 2000000
namespace Go.Av.Lx
open Go Go.Av Go.Av.Tb Go.Av.Fx Go.Proofs
open Go.Lv (Sight Survey Sw Sv SightOk keepS zAq dropsS blamesS possS searchM shortM firstI dropM)
open Go.Fw (Sq ent Bd Mat)
end Go.Av.Lx
end
section
set_option maxHeartbeats 2000000
namespace Go.Av.Lx
open Go Go.Av Go.Av.Tb Go.Av.Fx Go.Proofs
open Go.Lv (Sight Survey Sw Sv SightOk keepS zAq dropsS blamesS possS searchM shortM firstI dropM)
open Go.Fw (Sq ent Bd Mat)
end Go.Av.Lx
end
section
set_option maxHeartbeats 2000000
namespace Go.Av.Lx
open Go Go.Av Go.Av.Tb Go.Av.Fx Go.Proofs
open Go.Lv (Sight Survey Sw Sv SightOk Stp bgS enS stpD chainB closedB ringB stepB)
open Go.Fw (Sq ent Bd Mat)
theorem mapGet {S:St} {i:Nat} {ks:List Int} (h:S.heap[i]? = some (some (.map (metA ks)))) (n:Int):lookupA T S 181 (.map i) (.int .i64 n) false=some (.bool (ks.contains n)):=by
 have d1:descOf T 181=some (.map 3 4):=rfl
 have d2:descOf T 3=some (.int .i64):=rfl
 have d3:T 4=some ti4:=rfl
 have d4:aggD ti4.desc=false:=rfl
 simp only [lookupA,d1,d2,d3,h,isKey,d4,and_self,if_true]
 cases hc:ks.contains n
 ·rw [((zEt n ks 0).1 hc)];rfl
 ·obtain ⟨j,h1,h2⟩:=(zEt n ks 0).2 hc
  rw [h1];rfl
theorem up_bd {s:Survey} (h:Sw s) {x:Stp} (hx:InS s x):-1050≤upSt s x∧upSt s x≤1050:=(h.bd _ (Lv.step_mem hx)).2.2.2
theorem tot_bd {s:Survey} (h:Sw s):∀ {l:List Stp},Lv.StepsIn s l → -1050 * (l.length:Int)≤Wk.tot (stepB s) l∧Wk.tot (stepB s) l≤1050 * l.length
 | [],_=>by show -1050 * ((0:Nat):Int)≤0∧(0:Int)≤1050 * ((0:Nat):Int);omega
 | x :: l,hl=>by
  have h1:=tot_bd h (l:=l) fun y hy=>hl y (zQ _ hy)
  have h2:=up_bd h (hl x zO)
  unfold upSt at h2
  show -1050 * ((l.length+1:Nat):Int)≤(stepB s x).m+Wk.tot (stepB s) l∧(stepB s x).m+Wk.tot (stepB s) l≤1050 * ((l.length+1:Nat):Int)
  omega
end Go.Av.Lx
end
section
set_option maxHeartbeats 2000000
namespace Go.Av.Lx
open Go Go.Av Go.Av.Tb Go.Av.Fx Go.Proofs
open Go.Lv (Sight Survey Sw Sv SightOk Stp bgS enS riseS stpD chainB closedB ringB ringA ringR stepB stpAt firstI shortR)
open Go.Fw (Sq ent Bd Mat)

end Go.Av.Lx
end
section
set_option maxHeartbeats 2000000
namespace Go.Av.Lx
open Go Go.Av Go.Av.Tb Go.Av.Fx Go.Proofs
open Go.Lv (Sight Survey Sw Sv SightOk Stp ringB ringA ringR firstI shortR)
open Go.Fw (Sq ent Bd Mat)

end Go.Av.Lx
end
section
set_option maxHeartbeats 2000000
namespace Go.Av.Lx
open Go Go.Av Go.Av.Tb Go.Av.Fx Go.Proofs
open Go.Lv (Sight Survey Sw Sv SightOk)
theorem addS {a b:ByteArray} (h:a.size+b.size≤4611686018427387904):binA T .add 9 (.str a) (.str b)=some (.str (a ++ b)):=by
 show (if a.size+b.size≤4611686018427387904 then some (AV.str (a ++ b)) else none)=_
 rw [if_pos h]
@[go_sem] theorem tas_ii (v:AV):zAy T (.iface 3 v) 3 true=some (.tuple [v,.bool true]):=rfl
@[go_sem] theorem tas_si (v:AV):zAy T (.iface 85 v) 3 true=some (.tuple [.int .i64 0,.bool false]):=rfl
@[go_sem] theorem tas_ss (v:AV):zAy T (.iface 85 v) 85 true=some (.tuple [v,.bool true]):=rfl
@[go_sem] theorem bs_int4 (a b c d:Int):zAe T 32 4 [(0,.int .i64 a),(1,.int .i64 b),(2,.int .i64 c),(3,.int .i64 d)]=some (.slice [.int .i64 a,.int .i64 b,.int .i64 c,.int .i64 d] 4 .exact):=rfl
theorem words_pc:PC Tryz.prog 179 [] (.pure (.agg [.str (wordB 0),.str (wordB 1)])):=by
 refine PC.of_empty (AC.run (E_ok _) mix Tryz.func179 m179 rfl rfl rfl (zE rfl) ?_) rfl rfl
 have hb:buildA T 228 [(0,AV.str ⟨#[115,117,114,118,101,121]⟩),(1,AV.str ⟨#[115,105,103,104,116]⟩)]=some (.agg [.str (wordB 0),.str (wordB 1)]):=by rfl
 simp only [go_sem,hb,zAd,AV.cells,AV.one,zK,zM,zJ,splice,zH,zG,and_self,Tryz.f179,zB,zD,zC,reduceIte,reduceCtorEq,zA]
 all_goals rfl
theorem row_loop (kk:Nat) (ns:List Int) (hn:ns.length≤4) (h:∀ n∈ns,i64 n) (H:List (Option Blk)) (Q:AQ)
  (hQ:Q (.exit 1) [(7,.str (rowB kk ns)),(31,.slice (ints ns) ns.length .exact),(32,.int .i64 ns.length),(33,.int .i64 ns.length),(34,.bool false)] ⟨H,0,[]⟩) :
  WC (E 44) (.loop l161_0) Q [(7,.str (wordB kk)),(31,.slice (ints ns) ns.length .exact),(32,.int .i64 ns.length),(33,.int .i64 0)] ⟨H,0,[]⟩:=by
 refine zEc ns.length (fun k=>[(7,.str (rowN (wordB kk) (ns.take k))),(31,.slice (ints ns) ns.length .exact),(32,.int .i64 ns.length),(33,.int .i64 k)]) (fun _=>⟨H,0,[]⟩) rfl rfl ?_
 intro k hk I hI
 by_cases h':k<ns.length
 ·have h1:(k:Int)<ns.length:=by omega
  have h2:0≤(k:Int)∧(k:Int)<ns.length:=by omega
  have h3:ns[k]? = some ns[k]:=zF h'
  have h4:IntKind.i64.wrap ((k:Int)+1)=(k+1:Nat):=wrap64 (by omega)
  have hm:=h _ (qA h')
  have h5:=zBc hm
  have h6:=zEr (ns.take k) (wordB kk) fun m hm=>h m (List.mem_of_mem_take hm)
  have h7:=wordB_size kk
  have h8:(ns.take k).length≤4:=by simp;omega
  have h9:sp.size+(itoaB ns[k]).size≤4611686018427387904:=by show 1+_≤_;omega
  have h10:(rowN (wordB kk) (ns.take k)).size+(sp ++ itoaB ns[k]).size≤4611686018427387904:=by rw [qJ];show _+(1+_)≤_;omega
  simp only [go_sem,l161_0,zAa,h1,decide_true,h2,zBa,h3,zAg,zV,zB,zD,zC,reduceIte,reduceCtorEq,zA]
  refine cp n162 (Itoa_pc _ hm.1 hm.2) (SubL.refl _) ?_
  have h11:binA T .add 9 (.str ⟨#[32]⟩) (.str (itoaB ns[k]))=some (.str (sp ++ itoaB ns[k])):=addS h9
  have h12:=addS h10
  simp only [go_sem,h11,h12,h4,zB,zD,zC,reduceIte,reduceCtorEq,zA]
  have:=hI h'
  rw [rowN_take _ _ _ h'] at this
  exact this
 ·have h1:¬ (k:Int)<ns.length:=by omega
  have e:k=ns.length:=by omega
  subst e
  simp only [go_sem,l161_0,zAa,h1,decide_false,qY,zB,zD,zC,reduceIte,reduceCtorEq,zA]
  exact hQ
theorem rowI_pc (n:Int) (h:i64 n):PC Tryz.prog 161 [.iface 3 (.int .i64 n)] (.pure (.str (rowB 0 [n]))):=by
 refine PC.of_empty (AC.run (E_ok _) mix Tryz.func161 m161 rfl rfl rfl (zE rfl) ?_) (by simp [bndL,AV.bnd]) rfl
 have hi:indexA T 228 (.agg [.str (wordB 0),.str (wordB 1)]) (.int .i64 0)=some (.str (wordB 0)):=rfl
 simp only [go_sem,zAc,zB,zD,zC,reduceIte,reduceCtorEq,zA]
 refine cp n179 words_pc (SubL.refl _) ?_
 simp only [go_sem,hi,zAa,zB,zD,zC,reduceIte,reduceCtorEq,zA]
 refine row_loop 0 [n] (zE rfl) (fun m hm=>by rw [qL] at hm;subst hm;exact h) _ _ ?_
 simp only [go_sem,Tryz.f161,zB,zD,zC,reduceIte,reduceCtorEq,zA]
theorem rowS_pc (x:Sight) (h:∀ n∈nsS x,i64 n):PC Tryz.prog 161 [.iface 85 (.agg (sgtC x))] (.pure (.str (rowB 1 (nsS x)))):=by
 refine PC.of_empty (AC.run (E_ok _) mix Tryz.func161 m161 rfl rfl rfl (zE rfl) ?_) (by simp [bndL,AV.bnd]) rfl
 have hi:indexA T 228 (.agg [.str (wordB 0),.str (wordB 1)]) (.int .i64 1)=some (.str (wordB 1)):=rfl
 simp only [go_sem,zAc,zAd,AV.cells,AV.one,zK,zM,zJ,splice,zH,zG,and_self,zB,zD,zC,reduceIte,reduceCtorEq,zA]
 refine cp n179 words_pc (SubL.refl _) ?_
 simp only [go_sem,hi,zAa,zB,zD,zC,reduceIte,reduceCtorEq,zA]
 refine row_loop 1 (nsS x) (zN _) h _ _ ?_
 simp only [go_sem,Tryz.f161,zB,zD,zC,reduceIte,reduceCtorEq,zA]
set_option maxHeartbeats 4000000
def strs (l:List ByteArray):List AV:=l.map .str
@[simp] theorem strs_len (l:List ByteArray):(strs l).length=l.length:=by simp [strs]
@[simp] theorem zBg (l:List ByteArray) (i:Nat):(strs l)[i]? = (l[i]?).map .str:=by simp [strs]
@[simp] theorem strs_bnd (n k:Nat) (l:List ByteArray):bndL n k (strs l)=true:=bndL_map _ (fun _=>rfl) l
@[go_sem] theorem bs_str1 (a:ByteArray):zAe T 171 1 [(0,.str a)]=some (.slice [.str a] 1 .exact):=rfl
@[go_sem] theorem isIface_int (k:IntKind):isIface (.int k)=false:=rfl
@[go_sem] theorem d_lsgt:descOf T 85=some ti85.desc:=rfl
@[go_sem] theorem i_lsgt:isIface ti85.desc=false:=rfl
theorem sr_str {K:AV→St→Prop} {hK:Hold K} {h:List (Option Blk)} {k n:Nat} {l:List ByteArray} (x:ByteArray) (hn:l.length=n) (h7:n≤1000000)
  (next:K (.slice (strs (l ++ [x])) (n+1) (tailN (k+1))) ⟨h,k+1,toksN (k+1)⟩):sr K hK (appendA T ⟨h,k,toksN k⟩ 171 (.slice (strs l) n (tailN k)) (.slice [.str x] 1 .exact)) ⟨h,k,toksN k⟩:=by
 subst hn
 have e:strs (l ++ [x])=strs l ++ [.str x]:=by simp [strs]
 rw [e] at next
 rw [zCt (e:=9) (ei:=ti9) (lx:=[.str x]) (nx:=1) rfl rfl (by decide) (by simp [heldA,ti9]) (by decide) rfl (by show (l.length+1) * 16≤_;omega) (by omega) (by simp [ti9])]
 cases k with
 | zero=>rw [tailN,sr_tok];exact next
 | succ k =>
  rw [tailN,zBx]
  refine ⟨zO, ?_⟩
  have:killTok (toksN (k+1)) (some k)=[]:=by simp [killTok,toksN]
  show K (.slice (strs l ++ [.str x]) (l.length+1) (.tok (k+1))) ⟨h,k+1+1,(k+1) :: killTok (toksN (k+1)) (some k)⟩
  rw [this];exact next
def headR (s:Survey):ByteArray:=rowB 0 [s.stations]
def sgR (s:Survey) (k:Nat):List ByteArray:=(s.sights.take k).map fun x=>rowB 1 (nsS x)
theorem sgR_succ (s:Survey) (k:Nat) (h:k<s.sights.length):sgR s (k+1)=sgR s k ++ [rowB 1 (nsS s.sights[k])]:=by
 unfold sgR;rw [qG h,qP];rfl
theorem sgR_len (s:Survey) (k:Nat) (h:k≤s.sights.length):(sgR s k).length=k:=by simp [sgR];omega
theorem rowsL_eq (s:Survey):rowsL s=headR s :: sgR s s.sights.length:=by simp [rowsL,headR,sgR]
structure PlainS (s:Survey):Prop where
 many:s.sights.length≤1000
 head:i64 s.stations
 each:∀ x∈s.sights,∀ n∈nsS x,i64 n
theorem PlainS.rows {s:Survey} (h:PlainS s):∀ r∈rowsL s,r.size≤100:=by
 have key:∀ k ns,ns.length≤4→(∀ n∈ns,i64 n)→(rowB k ns).size≤100:=by
  intro k ns h1 h2
  have a:=zEr ns (wordB k) h2
  have b:=wordB_size k
  show (rowN (wordB k) ns).size≤_
  omega
 intro r hr
 simp only [rowsL,yL,List.mem_map] at hr
 rcases hr with rfl | ⟨x,hx,rfl⟩
 ·exact key _ _ (by simp) fun m hm=>by rw [qL] at hm;subst hm;exact h.head
 ·exact key _ _ (zN _) (h.each x hx)
theorem Sv.plain {s:Survey} (h:Sv s):PlainS s where
 many:=by have:=h.many;omega
 head:=by have:=h.st;exact ⟨by omega,by omega⟩
 each:=fun x hx n hn=>by
  have hs:=h.sights x hx
  have h1:=hs.frm;have h2:=hs.to;have h3:=hs.rise;have h4:=hs.off;have:=h.st
  simp only [nsS,yL,yE,or_false] at hn
  rcases hn with rfl | rfl | rfl | rfl <;> exact ⟨by omega,by omega⟩
theorem text_row (r:ByteArray) (hr:r.size≤100) (C:Int) (hC:0≤C∧C≤22950000000000) (i:Nat) (hi:i<3000) (A B N J:AV) (H:List (Option Blk)) (m:Nat) (Q:AQ)
  (hQ:∀ k:Int,Q (.exit 4) [(3,A),(6,.int .i64 (C+rs r r.size * (i+1:Nat))),(29,B),(30,N),(31,J),(7,.int .i64 i),(8,.str r),(37,.int .i64 r.size),(38,.int .i64 k),(39,.bool false)] ⟨H,m,toksN m⟩) :
  WC (E 76) (.loop l122_2) Q [(3,A),(6,.int .i64 C),(29,B),(30,N),(31,J),(7,.int .i64 i),(8,.str r),(37,.int .i64 r.size),(38,.int .i64 0)] ⟨H,m,toksN m⟩:=by
 refine zEc r.size (fun k=>[(3,A),(6,.int .i64 (C+rs r k * (i+1:Nat))),(29,B),(30,N),(31,J),(7,.int .i64 i),(8,.str r),(37,.int .i64 r.size),(38,.int .i64 k)]) (fun _=>⟨H,m,toksN m⟩) (by simp only [rs,Int.zero_mul,Int.add_zero];rfl) rfl ?_
 intro k hk I2 hI2
 by_cases h'':k<r.size
 ·have g1:(k:Int)<r.size:=by omega
  have g4:IntKind.i64.wrap ((k:Int)+1)=(k+1:Nat):=wrap64 (by omega)
  have h4:IntKind.i64.wrap ((i:Int)+1)=(i+1:Nat):=wrap64 (by omega)
  have hbt:r[k]? = some r[k]:=by simp [h'']
  have hB:r[k].toNat≤255:=Nat.le_of_lt_succ (UInt8.toNat_lt _)
  have hrs:rs r (k+1)=rs r k+(r[k].toNat:Int) * (k+1:Nat):=by
   show rs r k+(((r[k]?).getD 0).toNat:Int) * _=_
   rw [hbt];rfl
  have hb2:=rs_bd100 r (k:=k) (by omega)
  have p1:0≤(r[k].toNat:Int) * (k+1:Nat):=yK (by omega) (by omega)
  have p2:(r[k].toNat:Int) * (k+1:Nat)≤255 * (100:Int):=Int.mul_le_mul (by omega) (by omega) (by omega) (by omega)
  have p3:0≤(r[k].toNat:Int) * (k+1:Nat) * (i+1:Nat):=yK p1 (by omega)
  have p4:(r[k].toNat:Int) * (k+1:Nat) * (i+1:Nat)≤25500 * (3000:Int):=Int.mul_le_mul (by omega) (by omega) (by omega) (by omega)
  have p5:0≤rs r k * (i+1:Nat):=yK hb2.1 (by omega)
  have p6:rs r k * (i+1:Nat)≤2550000 * (3000:Int):=Int.mul_le_mul hb2.2 (by omega) (by omega) (by omega)
  have w1:IntKind.i64.wrap (r[k].toNat:Int)=r[k].toNat:=wrap64 (by omega)
  have w2:IntKind.i64.wrap ((r[k].toNat:Int) * (k+1:Nat))=(r[k].toNat:Int) * (k+1:Nat):=wrap64 (by omega)
  have w3:IntKind.i64.wrap ((r[k].toNat:Int) * (k+1:Nat) * (i+1:Nat))=(r[k].toNat:Int) * (k+1:Nat) * (i+1:Nat):=wrap64 (by omega)
  have w4:IntKind.i64.wrap (C+rs r k * (i+1:Nat)+(r[k].toNat:Int) * (k+1:Nat) * (i+1:Nat))=C+rs r k * (i+1:Nat)+(r[k].toNat:Int) * (k+1:Nat) * (i+1:Nat):=wrap64 (by omega)
  have hz:0≤(k:Int):=by omega
  simp only [go_sem,l122_2,g1,decide_true,zB,zD,zC,reduceIte,reduceCtorEq,zA]
  simp only [go_sem,hz,hbt,convA,w1,w2,w3,w4,g4,h4,zAg,zB,zD,zC,reduceIte,reduceCtorEq,zA]
  have:=hI2 h''
  rw [hrs,Int.add_mul,← Int.add_assoc] at this
  exact this
 have g1:¬ (k:Int)<r.size:=by omega
 have e:k=r.size:=by omega
 subst e
 simp only [go_sem,l122_2,zAa,g1,decide_false,zB,zD,zC,reduceIte,reduceCtorEq,zA]
 exact hQ _
set_option maxHeartbeats 4000000
theorem joinTail_len (sep:ByteArray):∀ (R:List ByteArray) (n:Nat),(∀ r∈R,r.size≤n)→(Lib.joinTail sep.data.toList (R.map (·.data.toList))).length≤(n+sep.size) * R.length
 | [],n,_=>by simp [Lib.joinTail]
 | a :: R,n,h=>by
  have h1:=joinTail_len sep R n fun r hr=>h r (zQ _ hr)
  have h2:a.data.toList.length≤n:=h a zO
  have h3:sep.data.toList.length=sep.size:=rfl
  simp only [Lib.joinTail,List.map_cons,List.flatten_cons,qE,zT,Nat.mul_add,yO] at h1 ⊢
  omega
theorem join_len (sep:ByteArray) (R:List ByteArray) (n:Nat) (h:∀ r∈R,r.size≤n):(Lib.join (R.map (·.data.toList)) sep.data.toList).length≤(n+sep.size) * R.length:=by
 cases R with
 | nil=>simp [Lib.join_nil]
 | cons a R =>
  have h1:=joinTail_len sep R n fun r hr=>h r (zQ _ hr)
  have h2:a.data.toList.length≤n:=h a zO
  rw [List.map_cons,Lib.join_cons]
  simp only [qE,zT,Nat.mul_add,yO]
  omega
theorem text_pc (s:Survey) (h:PlainS s):PC Tryz.prog 122 [surA s] (.pure (.str (textB s))):=by
 have hm:=h.many
 refine PC.of_empty (AC.run (E_ok _) mix Tryz.func122 m122 rfl rfl rfl (zE rfl) ?_) (by simp [bndL,AV.bnd]) rfl
 simp only [go_sem,boxA,zB,zD,zC,reduceIte,reduceCtorEq,zA]
 refine cp n161 (rowI_pc s.stations h.head) (SubL.refl _) ?_
 simp only [go_sem,zAa,zB,zD,zC,reduceIte,reduceCtorEq,zA]
 refine wc_forE s.sights.length (fun k=>[(3,.slice (strs (headR s :: sgR s k)) (k+1) (tailN k)),(16,.slice (sgts s.sights) s.sights.length .unk),(17,.int .i64 s.sights.length),(18,.int .i64 (k:Nat))]) (fun k S => ∃ X,S=⟨[some (.cells (surC s))] ++ X,k,toksN k⟩) rfl ⟨[],rfl⟩ ?_
 rintro k hk S ⟨X,rfl⟩ I hI
 have c1:=fun q=>zAf X q
 have c2:=fun x B=>zAt X x B
 by_cases hkl:k<s.sights.length
 ·have k1:(k:Int)<s.sights.length:=by omega
  have k2:0≤(k:Int)∧(k:Int)<s.sights.length:=by omega
  have k3:k * 4+4≤(sgts s.sights).length:=by rw [zAx];omega
  have k4:IntKind.i64.wrap ((k:Int)+1)=(k+1:Nat):=wrap64 (by omega)
  have k5:=zBy s.sights k hkl
  have hp:=rowS_pc s.sights[k] (h.each _ (qA hkl))
  have hI:=hI hkl
  rw [sgR_succ s k hkl] at hI
  have hl:=sgR_len s k hk
  generalize s.sights[k]=x at *
  simp only [go_sem,l122_0,k1,decide_true,k2,k3,k5,zAg,and_self,c1,c2,zAd,AV.cells,AV.one,zK,zM,zJ,splice,zH,zG,zB,zD,zC,reduceIte,reduceCtorEq,zA]
  refine cp n161 hp (SubL.refl _) ?_
  simp only [go_sem,zAa,zB,zD,zC,reduceIte,reduceCtorEq,zA]
  refine sr_str (l:=headR s :: sgR s k) _ (by simp [hl]) (by omega) ?_
  simp only [go_sem,k4,zB,zD,zC,reduceIte,reduceCtorEq,zA]
  exact hI _ ⟨X ++ [some (.cells (sgtC x))],rfl⟩
 have k1:¬ (k:Int)<s.sights.length:=by omega
 have ek:k=s.sights.length:=by omega
 subst ek
 clear hI hk hkl
 have hRl:(rowsL s).length=s.sights.length+1:=by simp [rowsL]
 rw [← rowsL_eq,← hRl]
 have hR:=h.rows
 have hfin:textB s=joinB (rowsL s ++ [endB ((ck (rowsL s) (rowsL s).length).tmod 149)]) lf ++ lf:=rfl
 rw [hfin]
 clear hfin
 generalize s.sights.length=m at *
 generalize hRR:rowsL s=R at *
 obtain ⟨Z,hZ⟩:∃ Z,MC.loop l122_1=Z:=⟨_,rfl⟩
 simp only [go_sem,l122_0,k1,decide_false,zAa,zB,zD,zC,reduceIte,reduceCtorEq,zA]
 refine zEc R.length (fun i=>[(3,.slice (strs R) R.length (tailN m)),(6,.int .i64 (ck R i)),(29,.slice (strs R) R.length (tailN m)),(30,.int .i64 R.length),(31,.int .i64 (i:Nat))]) (fun _=>⟨[some (.cells (surC s))] ++ X,m,toksN m⟩) rfl rfl ?_
 intro i hi I hI
 by_cases h':i<R.length
 ·have h1:(i:Int)<R.length:=by omega
  have h2:0≤(i:Int)∧(i:Int)<R.length:=by omega
  have h3:R[i]? = some R[i]:=zF h'
  have h4:IntKind.i64.wrap ((i:Int)+1)=(i+1:Nat):=wrap64 (by omega)
  have hr:=hR _ (qA h')
  have hck:ck R (i+1)=ck R i+rs R[i] R[i].size * (i+1:Nat):=by
   show ck R i+rs (R.getD i _) (R.getD i _).size * _=_
   rw [zI,h3];rfl
  have hb:=ck_bd hR i (by omega)
  have hI:=hI h'
  rw [hck] at hI
  simp only [go_sem,l122_1,zAa,h1,decide_true,h2,zBg,h3,zAg,zV,zB,zD,zC,reduceIte,reduceCtorEq,zA]
  refine text_row R[i] hr (ck R i) ⟨hb.1,by omega⟩ i (by omega) _ _ _ _ _ m _ fun k => ?_
  simp only [go_sem,h4,zB,zD,zC,reduceIte,reduceCtorEq,zA]
  exact hI
 have h1:¬ (i:Int)<R.length:=by omega
 have e:i=R.length:=by omega
 subst e
 have hb:=ck_bd hR R.length (by omega)
 have hNR:R.length≤1001:=by omega
 generalize ck R R.length=C at *
 have e1:intOp .rem .i64 C 149=some (.int .i64 (C.tmod 149)):=rfl
 have hc0:0≤C.tmod 149:=Int.tmod_nonneg _ hb.1
 have hc1:C.tmod 149<149:=Int.tmod_lt_of_pos _ (by decide)
 generalize C.tmod 149=c at *
 have d1:c.tdiv 100=c / 100:=yA hc0
 have d2:c.tdiv 10=c / 10:=yA hc0
 have d3:(c.tdiv 10).tmod 10=c / 10 % 10:=by rw [d2];exact qV (by omega)
 have d4:c.tmod 10=c % 10:=qV hc0
 have e2:intOp .quo .i64 c 100=some (.int .i64 (c.tdiv 100)):=by
  show some (AV.int .i64 (IntKind.i64.wrap (c.tdiv 100)))=_
  rw [wrap64 (by omega)]
 have e3:intOp .quo .i64 c 10=some (.int .i64 (c.tdiv 10)):=by
  show some (AV.int .i64 (IntKind.i64.wrap (c.tdiv 10)))=_
  rw [wrap64 (by omega)]
 have e4:intOp .rem .i64 (c.tdiv 10) 10=some (.int .i64 ((c.tdiv 10).tmod 10)):=rfl
 have e5:intOp .rem .i64 c 10=some (.int .i64 (c.tmod 10)):=rfl
 have i1:i64 (c.tdiv 100):=⟨by omega,by omega⟩
 have i2:i64 ((c.tdiv 10).tmod 10):=⟨by omega,by omega⟩
 have i3:i64 (c.tmod 10):=⟨by omega,by omega⟩
 have z1:=zBc i1
 have z2:=zBc i2
 have z3:=zBc i3
 have s1:endW.size+(itoaB (c.tdiv 100)).size≤4611686018427387904:=by show 4+_≤_;omega
 have s2:(endW ++ itoaB (c.tdiv 100)).size+(itoaB ((c.tdiv 10).tmod 10)).size≤4611686018427387904:=by rw [qJ];show 4+_+_≤_;omega
 have s3:(endW ++ itoaB (c.tdiv 100) ++ itoaB ((c.tdiv 10).tmod 10)).size+(itoaB (c.tmod 10)).size≤4611686018427387904:=by rw [qJ,qJ];show 4+_+_+_≤_;omega
 have hend:(endB c).size≤100:=by unfold endB;rw [qJ,qJ,qJ];show 4+_+_+_≤_;omega
 have a1:binA T .add 9 (.str ⟨#[101,110,100,32]⟩) (.str (itoaB (c.tdiv 100)))=some (.str (endW ++ itoaB (c.tdiv 100))):=addS s1
 have a2:=addS s2
 have a3:=addS s3
 simp only [go_sem,l122_1,zAa,h1,decide_false,e1,e2,e3,e4,e5,zB,zD,zC,reduceIte,reduceCtorEq,zA]
 refine cp n162 (Itoa_pc _ i1.1 i1.2) (SubL.refl _) ?_
 simp only [go_sem,e1,e2,e3,e4,e5,a1,zB,zD,zC,reduceIte,reduceCtorEq,zA]
 refine cp n162 (Itoa_pc _ i2.1 i2.2) (SubL.refl _) ?_
 simp only [go_sem,e1,e2,e3,e4,e5,a2,zB,zD,zC,reduceIte,reduceCtorEq,zA]
 refine cp n162 (Itoa_pc _ i3.1 i3.2) (SubL.refl _) ?_
 simp only [go_sem,e1,e2,e3,e4,e5,a3,zAa,zB,zD,zC,reduceIte,reduceCtorEq,zA]
 refine sr_str (l:=R) (endB c) rfl (by omega) ?_
 simp only [go_sem,zB,zD,zC,reduceIte,reduceCtorEq,zA]
 have hR2:∀ r∈R ++ [endB c],r.size≤100:=by
  intro r hr
  rcases List.mem_append.1 hr with hr | hr
  ·exact hR r hr
  ·simp at hr;subst hr;exact hend
 have hlen:(R ++ [endB c]).length=R.length+1:=by simp
 have hj:=join_len lf (R ++ [endB c]) 100 hR2
 have hj2:101 * (R ++ [endB c]).length≤101 * 3000:=Nat.mul_le_mul_left _ (by omega)
 have hj3:lf.size=1:=rfl
 rw [hj3] at hj
 have hjp:=Join_pc (R ++ [endB c]) lf (tailN (m+1)) (by omega) (by omega)
 rw [hlen] at hjp
 refine cp n163 hjp (SubL.refl _) ?_
 have hjs:(joinB (R ++ [endB c]) lf).size+lf.size≤4611686018427387904:=by
  have:(joinB (R ++ [endB c]) lf).size=(Lib.join ((R ++ [endB c]).map (·.data.toList)) lf.data.toList).length:=by simp [joinB,ByteArray.size]
  omega
 have a4:binA T .add 9 (.str (joinB (R ++ [endB c]) lf)) (.str ⟨#[10]⟩)=some (.str (joinB (R ++ [endB c]) lf ++ lf)):=addS hjs
 simp only [go_sem,a4,Tryz.f122,zB,zD,zC,reduceIte,reduceCtorEq,zA]
set_option maxHeartbeats 2000000
def printA (s:Survey):AV:=if zAp s=true then .tuple [.str (textB s),.int .i64 0] else .tuple [.str ByteArray.empty,.int .i64 2]
theorem printA_bnd (s:Survey):(printA s).bnd 0 0=true:=by unfold printA;split <;> rfl
theorem Print_pc (s:Survey) (hl:okL s.sights.length):PC Tryz.prog 59 [surA s] (.pure (printA s)):=by
 refine PC.of_empty (AC.run (E_ok _) mix Tryz.func59 m59 rfl rfl rfl (zE rfl) ?_) (by simp [bndL,AV.bnd]) (printA_bnd s)
 unfold printA
 simp only [go_sem,boxA,zB,zD,zC,reduceIte,reduceCtorEq,zA]
 refine cp n89 (zBp s hl) (SubL.refl _) ?_
 cases hs:zAp s
 ·simp only [go_sem,zAi,qF,Tryz.f59,zB,zD,zC,reduceIte,reduceCtorEq,zA]
  all_goals rfl
 have hv:=zDp.1 hs
 rw [if_pos rfl]
 simp only [go_sem,zAi,zX,zB,zD,zC,reduceIte,reduceCtorEq,zA]
 refine cp n122 (text_pc s (Sv.plain hv)) (SubL.refl _) ?_
 simp only [go_sem,Tryz.f59,zB,zD,zC,reduceIte,reduceCtorEq,zA]
end Go.Av.Lx
end
