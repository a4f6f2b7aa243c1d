/- Part 23 of the proof. -/
import Derived.Test.YtclmbbofpaecaaaGreatDoorVn22
import Derived.Test.YtclmbbofpaecaaaGreatDoorVn19
import Derived.Test.YtclmbbofpaecaaaGreatDoorVn14
import Derived.Shelf.Strings.OnBuilder
import Derived.Shelf.LaysM
import Derived.Shelf.Strconv.Itoa3
import Derived.Shelf.Strings.Split
import Derived.Test.YtclmbbofpaecaaaGreatDoorProg
set_option linter.all false
set_option linter.unusedVariables false
set_option linter.unusedSimpArgs false
set_option linter.unusedSectionVars false
open Bool renaming and_self → zJ, and_eq_true → zT, not_true → zV, not_false → qF, false_and → qH, true_and → qY, not_eq_true' → yE
open Int renaming toNat_natCast → qO
open List renaming getElem?_eq_getElem → zF, getD_eq_getElem?_getD → zG, set_cons_succ → zH, set_cons_zero → zI, all_cons → zL, all_nil → zO, mem_cons_self → zP, mem_cons_of_mem → zR, getElem_mem → qB, length_append → qC, length_nil → qE, map_append → qS, nil_append → yB, range_succ → yN
open Nat renaming reduceLeDiff → zA, reduceEqDiff → zB, reduceAdd → zC, reduceBEq → zD, le_of_ble_eq_true → zE, le_refl → zM, zero_le → qG
section
set_option maxHeartbeats 2000000
namespace Go.Av.Lx
open Go Go.Av Go.Av.Tb Go.Av.Fx Go.Proofs
open Go.Lv (Sight Survey Sw Sv SightOk Try TryOk worstW bestAt)
open Go.Fw (Sq ent Bd Mat)
def tryD:Try:=⟨0,0,0⟩
theorem try_getD {l:List Try} {k:Nat} (h:k<l.length):l.getD k tryD=l[k]:=by rw [zG,zF h];rfl
def triesB (s:Survey) (l:List Try):Bool:=inB l.length 1 4 && !l.any (badTry s)
def tryW (V:Mat) (l:List Try) (i j:Nat) (k:Nat):Int:=worstW V (l.getD k tryD) i j
def takesA (s:Survey) (i j:Int) (l:List Try):AV:=betwA s i j (triesB s l) [.int .i64 0,.int .i64 0] fun V=>[.int .i64 (bestAt (tryW V l i.toNat j.toNat) (l.length - 1):Nat),.int .i64 (tryW V l i.toNat j.toNat (bestAt (tryW V l i.toNat j.toNat) (l.length - 1)))]
theorem Takes_pc (s:Survey) (hl:okL s.sights.length) (i j:Int) (l:List Try) (hll:okL l.length):PC Tryz.prog 47 [surA s,.int .i64 i,.int .i64 j,triesA l] (.pure (takesA s i j l)):=by
 refine PC.of_empty (AC.run (E_ok _) mix Tryz.func47 m47 rfl rfl rfl (zE rfl) ?_) (by simp [bndL,AV.bnd]) (zEv rfl fun _=>rfl)
 unfold takesA
 obtain ⟨fine,hfine⟩:∃ fine,triesB s l=fine:=⟨_,rfl⟩
 have key:∀ Q:AQ,Q .normal [(1,.int .i64 i),(2,.int .i64 j),(3,triesA l),(4,.ref 0 0),(11,.bool fine)] ⟨[some (.cells (surC s))],0,[]⟩→WC (E 64) (.region [1,2,3,4,11] r47_1) Q [(1,.int .i64 i),(2,.int .i64 j),(3,triesA l),(4,.ref 0 0)] ⟨[some (.cells (surC s))],0,[]⟩:=by
  intro Q hQ
  unfold triesB at hfine
  simp only [go_sem,zAa,zB,zD,zC,reduceIte,reduceCtorEq,zA]
  refine cp n100 (in_pc _ _ _) (SubL.refl _) ?_
  rw [show (decide ((l.length:Int) ≥ 1) && decide ((l.length:Int)≤4))=inB l.length 1 4 from rfl]
  cases h1:inB l.length 1 4
  ·rw [h1,qH] at hfine
   rw [← hfine] at hQ
   simp only [go_sem,zB,zD,zC,reduceIte,reduceCtorEq,zA]
   exact hQ
  rw [h1,qY] at hfine
  have hC:=containsFuncT_pc l hll 114 n114 [.eptr (surC s) 0] (by simp [bndL,AV.bnd]) (badTry s) (fun x _=>takes1_pc s x)
  simp only [go_sem,zB,zD,zC,reduceIte,reduceCtorEq,zA]
  refine cl n113 hC (LntL.cons (.same _ (by simp [AV.bnd])) (LntL.cons (Lnt.func1 (.ptr 0 0 _ rfl (by simp [bndL,AV.bnd]))) (LntL.nil _))) rfl ?_
  simp only [go_sem,zAg,hfine,zB,zD,zC,reduceIte,reduceCtorEq,zA]
  exact hQ
 obtain ⟨C,hC⟩:∃ C,MC.region [1,2,3,4,11] r47_1=C:=⟨_,rfl⟩
 unfold c47
 rw [hC]
 simp only [go_sem,boxA,zB,zD,zC,reduceIte,reduceCtorEq,zA]
 subst hC
 refine key _ ?_
 simp only [go_sem,zB,zD,zC,reduceIte,reduceCtorEq,zA]
 refine cp n84 (zCh s hl i j fine) (SubL.refl _) ?_
 rcases zDd s i j fine [.int .i64 0,.int .i64 0] (fun V=>[.int .i64 (bestAt (tryW V l i.toNat j.toNat) (l.length - 1):Nat),.int .i64 (tryW V l i.toNat j.toNat (bestAt (tryW V l i.toNat j.toNat) (l.length - 1)))]) with ⟨k,hk,_,e1,e2⟩ | ⟨V,hv,hf,hV,hj,e1,e2⟩
 ·rw [e1,hfine,e2]
  simp only [go_sem,zAc,hk,zAd,AV.cells,AV.one,zL,zO,zJ,splice,zI,zH,and_self,Tryz.f47,zB,zD,zC,reduceIte,reduceCtorEq,zA]
  all_goals rfl
 rw [e1,hfine,e2]
 rw [hf] at hfine
 unfold triesB at hfine
 rw [zT,yE] at hfine
 obtain ⟨hin,hbad⟩:=hfine
 have hlen:1≤l.length∧l.length≤4:=by have:=inB_iff.1 hin;omega
 have htry:∀ x∈l,TryOk s.stations x:=fun x hx=>(try_iff hv.st).1 (by
  have:=List.any_eq_false.1 hbad x hx
  simpa using this)
 have hst:s.stations=(Lv.num s:Int):=by have:=hv.st;show _=((s.stations.toNat:Nat):Int);omega
 have hi:=hj.hi;have hjj:=hj.hj;have he:=hj.e1
 have ef:far=1099511627776:=rfl
 obtain ⟨a,rfl⟩:∃ a:Nat,i=a:=⟨i.toNat,by omega⟩
 obtain ⟨b,rfl⟩:∃ b:Nat,j=b:=⟨j.toNat,by omega⟩
 simp only [qO] at he ⊢
 have ha:a<Lv.num s:=by omega
 have hb:b<Lv.num s:=by omega
 have hlt:ent V a b<far:=by omega
 clear e1 e2 key
 simp only [go_sem,zAc,kvC,zAa,zAd,AV.cells,AV.one,zL,zO,zJ,splice,zI,zH,and_self,zB,zD,zC,reduceIte,reduceCtorEq,zA]
 refine zAu (fun m ts' S' => ∃ k W nt tk X,k≤l.length∧m=l.length - k∧ts'=[(1,.int .i64 a),(2,.int .i64 b),(12,.ref 1 0),(14,W),(39,triesA l),(40,.int .i64 l.length),(41,.int .i64 (k:Nat))]∧S'=⟨[some (.cells (surC s)),some (.cells (kvC s (wS V)))] ++ X,nt,tk⟩∧Own (chos (tryW V l a b) k) k W nt tk) l.length ⟨0,.nilS,0,[],[],qG _,rfl,rfl,rfl,Own.nil _ _⟩ ?_
 rintro m ts' S' ⟨k,W,nt,tk,X,hk,rfl,rfl,rfl,ho⟩
 have c1:=fun q=>zAf X q
 have c2:=fun x B=>zAs X x B
 by_cases hkl:k<l.length
 ·have k1:(k:Int)<l.length:=by omega
  have k2:0≤(k:Int)∧(k:Int)<l.length:=by omega
  have k3:k * 3+3≤(triesC l).length:=by rw [triesC_len];omega
  have k4:IntKind.i64.wrap ((k:Int)+1)=(k+1:Nat):=wrap64 (by omega)
  have k5:=tries_at l k hkl
  have hx:=htry _ (qB hkl)
  have hw:worstW V l[k] a b=tryW V l a b k:=by unfold tryW;rw [try_getD hkl]
  have hwp:=tryWorst_pc s hv.toSw hV l[k] hx ha hb hlt
  rw [hw] at hwp
  generalize l[k]=x at *
  simp only [go_sem,l47_0,k1,decide_true,k2,k3,k5,zAi,and_self,c1,c2,zAd,AV.cells,AV.one,zL,zO,zJ,splice,zI,zH,kvC,zB,zD,zC,reduceIte,reduceCtorEq,zA]
  refine cp n116 hwp (SubL.refl _) ?_
  simp only [go_sem,zAa,zB,zD,zC,reduceIte,reduceCtorEq,zA]
  refine zEa (lx:=[.int .i64 k,.int .i64 (tryW V l a b k)]) rowChoices ho (chos_len _ _) rfl (by decide) rfl (by omega) fun W' tk' g => ?_
  simp only [go_sem,k4,zB,zD,zC,reduceIte,reduceCtorEq,zA]
  refine zAj (l.length - (k+1)) (by omega) ⟨k+1,W',nt+1,tk',_,hkl,rfl,rfl,rfl, ?_⟩
  have:=g.own
  rw [chos_succ] at this
  exact this
 ·have k1:¬ (k:Int)<l.length:=by omega
  have ek:k=l.length:=by omega
  subst ek
  simp only [go_sem,l47_0,k1,decide_false,zB,zD,zC,reduceIte,reduceCtorEq,zA]
  refine cp n111 (best_pc (tryW V l a b) l.length (by omega) (by omega)) (SubL.cons ho.sub (SubL.refl _)) ?_
  simp only [go_sem,c1,c2,zAd,AV.cells,AV.one,zL,zO,zJ,splice,zI,zH,and_self,Tryz.f47,zB,zD,zC,reduceIte,reduceCtorEq,zA]
  all_goals rfl
end Go.Av.Lx
end
section
set_option maxHeartbeats 2000000
namespace Go.Av.Lx
open Go Go.Av Go.Av.Tb Go.Av.Fx Go.Proofs
open Go.Lv (Sight Survey Sw Sv SightOk Try TryOk worstW bestAt withS tried riseAt widthAt)
open Go.Fw (Sq ent Bd Mat)
theorem app_sgt0 (S:St) (tx:Tail):appendA T S 22 .nilS (.slice [] 0 tx)=some (.pure .nilS):=rfl
theorem sgts_one (l:List Sight):(sgts l).all AV.one=true:=cat_one (f:=sgtC) (fun _=>rfl) l
theorem sgts_snoc (l:List Sight) (x:Sight):sgts l ++ sgtC x=sgts (l ++ [x]):=cat_snoc (f:=sgtC) l x
theorem own_sq0s {l:List Sight} (hl:l.length≤100) {b:St} {tx:Tail} {nt:Nat} {toks:List Nat} {H:List (Option Blk)} {K:AV→St→Prop} {hK:Hold K}
  (next:∀ V' nt' toks',nt≤nt'→Own (sgts l) l.length V' nt' toks'→K V' ⟨H,nt',toks'⟩):sq K hK (appendA T b 22 .nilS (.slice (sgts l) l.length tx)) ⟨H,nt,toks⟩:=by
 rcases Nat.eq_zero_or_pos l.length with h | h
 ·have e:l=[]:=List.length_eq_zero_iff.1 h
  subst e
  rw [show sgts []=[] from rfl,qE,app_sgt0,sq_pure]
  exact next _ _ _ (zM _) (Own.nil _ _)
 ·refine own_sq (l:=[]) (n:=0) zEs (Own.nil _ _) rfl (by rw [zBf];omega) (by omega) (sgts_one l) (by omega) fun V' toks' g => ?_
  have:=g.own
  rw [yB,Nat.zero_add] at this
  exact next _ _ _ (by omega) this
@[go_sem] theorem bs_sgt (a b c d:Int):zAe T 22 1 [(0,.agg [.int .i64 a,.int .i64 b,.int .i64 c,.int .i64 d])]=some (.slice [.int .i64 a,.int .i64 b,.int .i64 c,.int .i64 d] 1 .exact):=rfl
theorem zEy {h:List (Option Blk)} {a b a' b':AV} (h1:Frz h a a') (h2:Frz h b b'):Frz h (.agg [a,b]) (.agg [a',b']):=
 .agg _ _ rfl fun j x y hx hy=>by
  match j,hx,hy with
  | 0,hx,hy=>simp at hx hy;subst hx;subst hy;exact h1
  | 1,hx,hy=>simp at hx hy;subst hx;subst hy;exact h2
  | j+2,hx,hy=>simp at hx
theorem With_pc (s:Survey) (hl:s.sights.length≤100) (y:Sight):PC Tryz.prog 55 [surA s,.agg (sgtC y)] (.pure (surA (withS s y))):=by
 refine PC.of_frz (AC.run (E_ok _) mix Tryz.func55 m55 rfl rfl rfl (zE rfl) ?_) (by simp [bndL,AV.bnd]) (by simp [bndL,AV.bnd])
 simp only [go_sem,boxA,zAd,AV.cells,AV.one,zL,zO,zJ,splice,zI,zH,and_self,zAa,zB,zD,zC,reduceIte,reduceCtorEq,zA]
 refine own_sq0s hl fun V1 nt1 tk1 _ o1 => ?_
 simp only [go_sem,zAa,zB,zD,zC,reduceIte,reduceCtorEq,zA]
 refine zEa (lx:=sgtC y) zEs o1 (by rw [zBf];omega) rfl (by decide) rfl (by omega) fun V2 tk2 g => ?_
 obtain ⟨q1,q2⟩:=g.own.cells
 have go:=g.own
 rw [sgts_snoc] at go
 simp only [go_sem,q1,q2,zAd,zL,zO,zJ,splice,zI,zH,and_self,zB,zD,zC,reduceIte,reduceCtorEq,zA]
 simp only [go_sem,zAd,AV.cells,q2,AV.one,zL,zO,zJ,splice,zI,zH,and_self,Tryz.f55,zB,zD,zC,reduceIte,reduceCtorEq,zA]
 refine ⟨_,rfl,zEy (.same _) ?_⟩
 rw [show (withS s y).sights=s.sights ++ [y] from rfl,qC,List.length_singleton]
 exact go.frz _
end Go.Av.Lx
end
section
set_option maxHeartbeats 2000000
namespace Go.Av.Lx
open Go Go.Av Go.Av.Tb Go.Av.Fx Go.Proofs
open Go.Lv (Sight Survey Sw Sv SightOk Try TryOk worstW bestAt withS tried riseAt widthAt withL)
open Go.Fw (Sq ent Bd Mat)

end Go.Av.Lx
end
section
set_option maxHeartbeats 2000000
namespace Go.Av.Lx
open Go Go.Av Go.Av.Tb Go.Av.Fx Go.Proofs
open Go.Lv (Sight Survey Sw Sv SightOk keepS zAq blamesS dropsS possS)
open Go.Fw (Sq ent Bd Mat)
theorem without_pc (s:Survey) (hl:s.sights.length≤100) (w:List Int) (hw:okL w.length):PC Tryz.prog 119 [surA s,sl w] (.pure (surA (zAq s w))):=by
 refine PC.of_frz (AC.run (E_ok _) mix Tryz.func119 m119 rfl rfl rfl (zE rfl) ?_) (by simp [bndL,AV.bnd]) (by simp [bndL,AV.bnd])
 have bd24:∀ a,buildA T 24 [(0,.int .i64 a)]=some (.agg [.int .i64 a,.nilS]):=fun a=>rfl
 simp only [go_sem,boxA,zAa,bd24,zAd,AV.cells,AV.one,zL,zO,zJ,splice,zI,zH,and_self,zB,zD,zC,reduceIte,reduceCtorEq,zA]
 refine zAu (fun m ts' S' => ∃ k W nt tk X,k≤s.sights.length∧m=s.sights.length - k∧ts'=[(1,sl w),(4,.ref 1 0),(5,.ref 2 0),(12,.slice (sgts s.sights) s.sights.length .unk),(13,.int .i64 s.sights.length),(14,.int .i64 (k:Nat))]∧S'=⟨[some (.cells (surC s)),some (.cells [.int .i64 0,.nilS]),some (.cells [.int .i64 s.stations,W])] ++ X,nt,tk⟩∧Own (sgts (keepS s w k)) (keepS s w k).length W nt tk) s.sights.length ⟨0,.nilS,0,[],[],qG _,rfl,rfl,rfl,Own.nil _ _⟩ ?_
 rintro m ts' S' ⟨k,W,nt,tk,X,hk,rfl,rfl,rfl,ho⟩
 have c1:=fun q=>zAf X q
 have c2:=fun x B=>zAs X x B
 by_cases hkl:k<s.sights.length
 ·have k1:(k:Int)<s.sights.length:=by omega
  have k2:0≤(k:Int)∧(k:Int)<s.sights.length:=by omega
  have k3:k * 4+4≤(sgts s.sights).length:=by rw [zBf];omega
  have k4:IntKind.i64.wrap ((k:Int)+1)=(k+1:Nat):=wrap64 (by omega)
  have k5:=zCj s.sights k hkl
  have hks:=Lv.keep_succ s w k
  have hg:s.sights.getD k Lv.sightZ=s.sights[k]:=by rw [zG,zF hkl];rfl
  have hkl2:=Lv.keep_len s w k
  rw [hg] at hks
  generalize s.sights[k]=x at *
  simp only [go_sem,l119_0,k1,decide_true,k2,k3,k5,zAi,and_self,c1,c2,zAd,AV.cells,AV.one,zL,zO,zJ,splice,zI,zH,zB,zD,zC,reduceIte,reduceCtorEq,zA]
  refine cp n160 (contains_pc w hw k) (SubL.refl _) ?_
  cases hc:w.contains (k:Int)
  ·rw [hc,if_neg (by decide)] at hks
   simp only [go_sem,zAg,qF,c1,zAa,zB,zD,zC,reduceIte,reduceCtorEq,zA]
   refine zEa (lx:=sgtC x) zEs ho (by rw [zBf];omega) rfl (by decide) rfl (by omega) fun W' tk' g => ?_
   obtain ⟨q1,q2⟩:=g.own.cells
   simp only [go_sem,q1,q2,zAd,zL,zO,zJ,splice,zI,zH,and_self,k4,zB,zD,zC,reduceIte,reduceCtorEq,zA]
   refine zAj (s.sights.length - (k+1)) (by omega) ⟨k+1,W',nt+1,tk',_,hkl,rfl,rfl,rfl, ?_⟩
   have:=g.own
   rw [sgts_snoc] at this
   rw [hks,qC,List.length_singleton]
   exact this
  ·rw [hc,if_pos rfl] at hks
   simp only [go_sem,zAg,zV,k4,zB,zD,zC,reduceIte,reduceCtorEq,zA]
   exact zAj (s.sights.length - (k+1)) (by omega) ⟨k+1,W,nt,tk,_,hkl,rfl,rfl,rfl,by rw [hks];exact ho⟩
 ·have k1:¬ (k:Int)<s.sights.length:=by omega
  have ek:k=s.sights.length:=by omega
  subst ek
  have hfz:=fun H=>ho.frz H
  rcases ho with ⟨rfl,_,_⟩ | ⟨q,rfl,_,_⟩
  ·simp only [go_sem,l119_0,k1,decide_false,zAd,AV.cells,AV.one,zL,zO,zJ,splice,zI,zH,and_self,Tryz.f119,zB,zD,zC,reduceIte,reduceCtorEq,zA]
   exact ⟨_,rfl,zEy (.same _) (hfz _)⟩
  ·simp only [go_sem,l119_0,k1,decide_false,zAd,AV.cells,AV.one,zL,zO,zJ,splice,zI,zH,and_self,Tryz.f119,zB,zD,zC,reduceIte,reduceCtorEq,zA]
   exact ⟨_,rfl,zEy (.same _) (hfz _)⟩
def blamesA (s:Survey):AV:=if zAp s=true then .tuple [sl (blamesS s),.int .i64 0] else .tuple [.nilS,.int .i64 2]
theorem blamesA_bnd (s:Survey):(blamesA s).bnd 0 0=true:=by
 unfold blamesA
 split
 ·simp [AV.bnd,bndL]
 ·rfl
def blamesK (s:Survey) (k:Nat):List Int:=((List.range k).filter fun (i:Nat)=>possS (zAq s [(i:Int)])).map fun (i:Nat)=>(i:Int)
theorem blamesK_succ (s:Survey) (k:Nat):blamesK s (k+1)=if possS (zAq s [(k:Int)])=true then blamesK s k ++ [(k:Int)] else blamesK s k:=by
 unfold blamesK
 rw [yN,List.filter_append,qS]
 cases h:possS (zAq s [(k:Int)]) <;> simp [h]
theorem blamesK_len (s:Survey) (k:Nat):(blamesK s k).length≤k:=by
 unfold blamesK;rw [List.length_map];exact Nat.le_trans (List.length_filter_le _ _) (by simp)
theorem Blames_pc (s:Survey) (hl:okL s.sights.length):PC Tryz.prog 51 [surA s] (.pure (blamesA s)):=by
 refine PC.of_frz (AC.run (E_ok _) mix Tryz.func51 m51 rfl rfl rfl (zE rfl) ?_) (by simp [bndL,AV.bnd]) (blamesA_bnd s)
 unfold blamesA
 simp only [go_sem,boxA,zB,zD,zC,reduceIte,reduceCtorEq,zA]
 refine cp n89 (zBn s hl) (SubL.refl _) ?_
 cases hs:zAp s
 ·simp only [go_sem,zAg,qF,Tryz.f51,zB,zD,zC,reduceIte,reduceCtorEq,zA]
  exact ⟨_,rfl,.same _⟩
 have hv:=zCk.1 hs
 have hm:=hv.many
 rw [if_pos rfl]
 simp only [go_sem,zAg,zV,zAa,zB,zD,zC,reduceIte,reduceCtorEq,zA]
 refine zAu (fun m ts' S' => ∃ k W nt tk,k≤s.sights.length∧m=s.sights.length - k∧ts'=[(1,.ref 0 0),(4,W),(11,.int .i64 s.sights.length),(12,.int .i64 (k:Nat))]∧S'=⟨[some (.cells (surC s))],nt,tk⟩∧Own (ints (blamesK s k)) (blamesK s k).length W nt tk) s.sights.length ⟨0,.nilS,0,[],qG _,rfl,rfl,rfl,Own.nil _ _⟩ ?_
 rintro m ts' S' ⟨k,W,nt,tk,hk,rfl,rfl,rfl,ho⟩
 by_cases hkl:k<s.sights.length
 ·have k1:(k:Int)<s.sights.length:=by omega
  have k4:IntKind.i64.wrap ((k:Int)+1)=(k+1:Nat):=wrap64 (by omega)
  have hks:=blamesK_succ s k
  have hbl:=blamesK_len s k
  have hwp:=without_pc s (by omega) [(k:Int)] (by show 1<9223372036854775807;decide)
  have hsw:=Lv.without_sv hv [(k:Int)]
  have hpp:=zEf (zAq s [(k:Int)]) hsw.toSw (by have:=hsw.many;omega)
  simp only [go_sem,l51_0,k1,decide_true,zB,zD,zC,reduceIte,reduceCtorEq,zA]
  refine cp n119 hwp (SubL.cons (Sub.refl _) (SubL.cons (Sub.unk _ 1 .exact) (SubL.refl []))) ?_
  simp only [go_sem,zB,zD,zC,reduceIte,reduceCtorEq,zA]
  refine cp n107 hpp (SubL.refl _) ?_
  cases hp:possS (zAq s [(k:Int)])
  ·rw [hp,if_neg (by decide)] at hks
   simp only [go_sem,k4,zB,zD,zC,reduceIte,reduceCtorEq,zA]
   exact zAj (s.sights.length - (k+1)) (by omega) ⟨k+1,W,nt,tk,hkl,rfl,rfl,rfl,by rw [hks];exact ho⟩
  ·rw [hp,if_pos rfl] at hks
   simp only [go_sem,zAa,zB,zD,zC,reduceIte,reduceCtorEq,zA]
   refine zEa (lx:=[.int .i64 k]) rowInts ho (by simp) rfl (by decide) rfl (by omega) fun W' tk' g => ?_
   simp only [go_sem,k4,zB,zD,zC,reduceIte,reduceCtorEq,zA]
   refine zAj (s.sights.length - (k+1)) (by omega) ⟨k+1,W',nt+1,tk',hkl,rfl,rfl,rfl, ?_⟩
   have:=g.own
   rw [show [AV.int .i64 (k:Int)]=ints [(k:Int)] from rfl,ints_app] at this
   rw [hks,qC,List.length_singleton]
   exact this
 ·have k1:¬ (k:Int)<s.sights.length:=by omega
  have ek:k=s.sights.length:=by omega
  subst ek
  simp only [go_sem,l51_0,k1,decide_false,Tryz.f51,zB,zD,zC,reduceIte,reduceCtorEq,zA]
  exact ⟨_,rfl,Frz.two (ho.frz _) (.same _)⟩
end Go.Av.Lx
end
section
set_option maxHeartbeats 2000000
namespace Go.Av.Lx
open Go Go.Av Go.Av.Tb Go.Av.Fx Go.Proofs
open Go.Lv (Sight Survey Sw Sv SightOk keepS zAq dropsS possS searchM shortM firstI dropM)
open Go.Fw (Sq ent Bd Mat)
abbrev drF:AV:=.func (.func 118) [] [.ref 1 0,.ref 0 0,.ref 2 0]
def DrSt (s:Survey) (out:AV) (S:St):Prop:=∃ ex,S.heap=some (.cells (surC s)) :: some (.cells [out]) :: some (.cells [drF]) :: ex
theorem DrSt.at {s:Survey} {out:AV} {S:St} (h:DrSt s out S):cellsAt S.heap 0=some (surC s)∧cellsAt S.heap 1=some [out]∧cellsAt S.heap 2=some [drF]:=by
 obtain ⟨ex,h⟩:=h
 rw [h]
 exact ⟨rfl,rfl,rfl⟩
theorem DrSt.set {s:Survey} {out:AV} {S:St} (h:DrSt s out S) (v:AV):DrSt s v { S with heap:=setH S.heap 1 (.cells [v]) }:=by
 obtain ⟨ex,h⟩:=h
 refine ⟨ex, ?_⟩
 show setH S.heap _ _=_
 rw [h];rfl
theorem zBx {β:Type} (f:Nat→Option β) (n r:Nat):firstI f n (r+1)=match f n with | some x=>some x | none=>firstI f (n+1) r:=rfl
theorem drops1_ac (s:Survey) (hv:Sv s) :
  ∀ (many:Nat) (now:List Int) (v:AV) (fr:Nat) (S:St) (out:AV),IsL v now→DrSt s out S→now.length+many≤s.sights.length→fr≤1000000 →
   AC Tryz.prog 118 [v,.int .i64 fr,.int .i64 many,.ref 1 0,.ref 0 0,.ref 2 0] S fun e S' =>
    match searchM (fun w=>possS (zAq s w)) s.sights.length many now fr with
    | some r=>e=.ret (.bool true) ∧ ∃ v',IsL v' r∧DrSt s v' S'
    | none=>e=.ret (.bool false) ∧ ∃ v',DrSt s v' S':=by
 have hb:=hv.many
 obtain ⟨below,hbelow⟩:∃ b,b=s.sights.length:=⟨_,rfl⟩
 rw [← hbelow] at hb ⊢
 intro many
 induction many with
 | zero =>
  intro now v fr S out hvl hS hlen hfr
  refine AC.run (Es_ok 39 S) mix Tryz.func118 m118 rfl rfl rfl (zE rfl) ?_
  have hz:decide (((0:Nat):Int)=0)=true:=rfl
  obtain ⟨c0,c1,c2⟩:=hS.at
  have o1:=hvl.one
  have cv:=cells_one o1
  have hS1:=hS.set v
  obtain ⟨d0,d1,d2⟩:=hS1.at
  have hwp:=without_pc s (by omega) now (by show now.length<9223372036854775807;omega)
  have hsw:=Lv.without_sv hv now
  have hpp:=zEf (zAq s now) hsw.toSw (by have:=hsw.many;omega)
  simp only [go_sem,hz,c0,c1,c2,o1,cv,zAd,zL,zO,zJ,splice,zI,zH,and_self,d0,d1,d2,zB,zD,zC,reduceIte,reduceCtorEq,zA]
  refine zCa (E:=Es 39 S) n119 hwp (SubL.cons (Sub.refl _) (SubL.cons hvl.sub (SubL.refl []))) ?_
  simp only [go_sem,zB,zD,zC,reduceIte,reduceCtorEq,zA]
  refine zCa (E:=Es 39 S) n107 hpp (SubL.refl _) ?_
  simp only [go_sem,Tryz.f118,zB,zD,zC,reduceIte,reduceCtorEq,zA]
  unfold searchM
  cases hp:possS (zAq s now)
  ·rw [if_neg (by decide)]
   exact ⟨rfl,v,hS1⟩
  ·rw [if_pos rfl]
   exact ⟨rfl,v,hvl,hS1⟩
 | succ many ih =>
  intro now v fr S out hvl hS hlen hfr
  refine AC.run (Es_ok 39 S) mix Tryz.func118 m118 rfl rfl rfl (zE rfl) ?_
  have hz:decide (((many+1:Nat):Int)=0)=false:=by rw [decide_eq_false_iff_not];omega
  obtain ⟨F,hF⟩:∃ F:Nat→Option (List Int),F=fun n:Nat=>searchM (fun w=>possS (zAq s w)) below many (now ++ [(n:Int)]) (n+1):=⟨_,rfl⟩
  have hsm:searchM (fun w=>possS (zAq s w)) below (many+1) now fr=firstI F fr (below+1 - (fr+(many+1))):=by rw [hF];rfl
  rw [hsm]
  simp only [go_sem,hz,zB,zD,zC,reduceIte,reduceCtorEq,zA]
  refine zAu (fun n ts S' => ∃ k out',n=(below+1 - (fr+(many+1))) - k∧k≤below+1 - (fr+(many+1))∧ts=[(0,v),(2,.int .i64 (many+1:Nat)),(4,.ref 0 0),(5,.ref 2 0),(10,.int .i64 (fr+k:Nat))]∧DrSt s out' S' ∧
   firstI F fr (below+1 - (fr+(many+1)))=firstI F (fr+k) ((below+1 - (fr+(many+1))) - k)) (below+1 - (fr+(many+1))) ⟨0,out,rfl,qG _,rfl,hS,rfl⟩ ?_
  rintro n ts S' ⟨k,out',hn,hk,rfl,hS',hres⟩
  obtain ⟨c0,c1,c2⟩:=hS'.at
  have w0:IntKind.i64.wrap (((fr+k:Nat):Int)+((many+1:Nat):Int))=(fr+k+(many+1):Nat):=by rw [wrap64 (by omega)];omega
  by_cases h':fr+k+(many+1)≤below
  ·have h1:((fr+k+(many+1):Nat):Int)≤s.sights.length:=by omega
   obtain ⟨r,hr⟩:∃ r,(below+1 - (fr+(many+1))) - k=r+1:=⟨(below+1 - (fr+(many+1))) - k - 1,by omega⟩
   rw [hr] at hres
   rw [zBx] at hres
   have eF:F (fr+k)=searchM (fun w=>possS (zAq s w)) below many (now ++ [((fr+k:Nat):Int)]) (fr+k+1):=by rw [hF]
   have w1:IntKind.i64.wrap (((fr+k:Nat):Int)+1)=(fr+k+1:Nat):=wrap64 (by omega)
   have w2:IntKind.i64.wrap (((many+1:Nat):Int) - 1)=(many:Nat):=by rw [wrap64 (by omega)];omega
   have ih':=fun v S hvl hS=>ih (now ++ [((fr+k:Nat):Int)]) v (fr+k+1) S out' hvl hS (by simp;omega) (by omega)
   rw [← eF] at ih'
   cases hvl with
   | nil =>
    simp only [go_sem,l118_0,c0,w0,h1,decide_true,zAa,zB,zD,zC,reduceIte,reduceCtorEq,zA]
    simp only [go_sem,c2,zB,zD,zC,reduceIte,reduceCtorEq,zA]
    refine zBo (E:=Es 39 S) n120 clone_nil (SubL.refl _) ?_
    have eN:appendA T S' 32 .nilS (.slice [.int .i64 (fr+k:Nat)] 1 .exact)=some (.tok none fun j=>.slice [.int .i64 (fr+k:Nat)] 1 (.tok j)):=rfl
    simp only [go_sem,w1,w2,zAa,eN,zB,zD,zC,reduceIte,reduceCtorEq,zA]
    refine zCb (E:=Es 39 S) n118 (ih' _ _ (show IsL (.slice (ints [((fr+k:Nat):Int)]) [((fr+k:Nat):Int)].length (.tok S'.nt)) _ from .row _ _ (by simp)) hS') ?_ ?_
    ·intro x S2 hR
     cases hq:F (fr+k) with
     | some rr =>
      rw [hq] at hR hres
      obtain ⟨hx,v',hv',hS2⟩:=hR
      cases hx
      simp only [go_sem,Tryz.f118,zB,zD,zC,reduceIte,reduceCtorEq,zA]
      rw [hres]
      exact ⟨v',hv',hS2⟩
     | none =>
      rw [hq] at hR hres
      obtain ⟨hx,v',hS2⟩:=hR
      cases hx
      simp only [go_sem,w1,zB,zD,zC,reduceIte,reduceCtorEq,zA]
      exact zAj ((below+1 - (fr+(many+1))) - (k+1)) (by omega) ⟨k+1,v',rfl,by omega,rfl,hS2,by rw [hres,show (below+1 - (fr+(many+1))) - (k+1)=r by omega];rfl⟩
    ·intro x S2 hR
     exfalso
     revert hR
     split
     ·exact fun hh=>nomatch hh.1
     ·exact fun hh=>nomatch hh.1
   | row _ t hne =>
    simp only [go_sem,l118_0,c0,w0,h1,decide_true,zAa,zB,zD,zC,reduceIte,reduceCtorEq,zA]
    simp only [go_sem,c2,zB,zD,zC,reduceIte,reduceCtorEq,zA]
    refine callq_tok (E:=Es 39 S) n120 (clone_pc now (by omega) hne) (SubL.cons (Sub.unk _ _ _) (SubL.refl [])) ?_
    have eN:appendA T S' 32 (.slice (ints now) now.length (.tok S'.nt)) (.slice [.int .i64 (fr+k:Nat)] 1 .exact)=some (.tok (some S'.nt) fun j=>.slice (ints now ++ [.int .i64 (fr+k:Nat)]) (now.length+1) (.tok j)):=
     zCs (e:=3) (ei:=ti3) (lx:=[.int .i64 (fr+k:Nat)]) (nx:=1) (tl:=.tok S'.nt) rfl rfl (by decide) rfl (by decide) rfl (by simp [ti3];omega) (by omega) (by simp [ti3])
    simp only [go_sem,w1,w2,zAa,eN,zB,zD,zC,reduceIte,reduceCtorEq,zA]
    refine ⟨zP, ?_⟩
    have elist:ints now ++ [.int .i64 (fr+k:Nat)]=ints (now ++ [((fr+k:Nat):Int)]):=by simp [ints]
    have elen:now.length+1=(now ++ [((fr+k:Nat):Int)]).length:=by simp
    rw [elist,elen]
    refine zCb (E:=Es 39 S) n118 (ih' _ _ (.row _ _ (by simp)) hS') ?_ ?_
    ·intro x S2 hR
     cases hq:F (fr+k) with
     | some rr =>
      rw [hq] at hR hres
      obtain ⟨hx,v',hv',hS2⟩:=hR
      cases hx
      simp only [go_sem,Tryz.f118,zB,zD,zC,reduceIte,reduceCtorEq,zA]
      rw [hres]
      exact ⟨v',hv',hS2⟩
     | none =>
      rw [hq] at hR hres
      obtain ⟨hx,v',hS2⟩:=hR
      cases hx
      simp only [go_sem,w1,zB,zD,zC,reduceIte,reduceCtorEq,zA]
      exact zAj ((below+1 - (fr+(many+1))) - (k+1)) (by omega) ⟨k+1,v',rfl,by omega,rfl,hS2,by rw [hres,show (below+1 - (fr+(many+1))) - (k+1)=r by omega];rfl⟩
    ·intro x S2 hR
     exfalso
     revert hR
     split
     ·exact fun hh=>nomatch hh.1
     ·exact fun hh=>nomatch hh.1
  ·have h1:¬ ((fr+k+(many+1):Nat):Int)≤s.sights.length:=by omega
   rw [show (below+1 - (fr+(many+1))) - k=0 by omega] at hres
   simp only [go_sem,l118_0,c0,w0,h1,decide_false,zAa,Tryz.f118,zB,zD,zC,reduceIte,reduceCtorEq,zA]
   rw [hres]
   exact ⟨out',hS'⟩
def dropsA (s:Survey):AV:=if zAp s=true then .tuple [sl (dropsS s),.int .i64 0] else .tuple [.nilS,.int .i64 2]
theorem dropsA_bnd (s:Survey):(dropsA s).bnd 0 0=true:=by
 unfold dropsA
 split
 ·simp [AV.bnd,bndL]
 ·rfl
theorem Drops_pc (s:Survey) (hl:okL s.sights.length):PC Tryz.prog 50 [surA s] (.pure (dropsA s)):=by
 refine PC.of_frz (AC.run (E_ok _) mix Tryz.func50 m50 rfl rfl rfl (zE rfl) ?_) (by simp [bndL,AV.bnd]) (dropsA_bnd s)
 unfold dropsA
 simp only [go_sem,boxA,zB,zD,zC,reduceIte,reduceCtorEq,zA]
 refine cp n89 (zBn s hl) (SubL.refl _) ?_
 cases hs:zAp s
 ·simp only [go_sem,zAg,qF,Tryz.f50,zB,zD,zC,reduceIte,reduceCtorEq,zA]
  exact ⟨_,rfl,.same _⟩
 have hv:=zCk.1 hs
 have hm:=hv.many
 rw [if_pos rfl]
 have w0:IntKind.i64.wrap ((s.sights.length:Int)+1)=(s.sights.length+1:Nat):=wrap64 (by omega)
 have hd:=Lv.drops_is hv.toSw
 unfold shortM at hd
 simp only [go_sem,zAg,zV,zAa,w0,zAd,AV.cells,AV.one,zL,zO,zJ,splice,zI,zH,and_self,zB,zD,zC,reduceIte,reduceCtorEq,zA]
 refine zAu (fun m ts' S' => ∃ k out,k≤s.sights.length+1∧m=s.sights.length+1 - k∧ts'=[(4,.ref 1 0),(5,.ref 2 0),(14,.int .i64 (s.sights.length+1:Nat)),(15,.int .i64 (k:Nat))]∧DrSt s out S'∧firstI (fun many=>searchM (fun w=>possS (zAq s w)) s.sights.length many [] 0) k (s.sights.length+1 - k)=some (dropsS s)) (s.sights.length+1) ⟨0,.nilS,qG _,rfl,rfl,⟨[],rfl⟩,hd⟩ ?_
 rintro m ts' S' ⟨k,out,hk,rfl,rfl,hS,hf⟩
 obtain ⟨c0,c1,c2⟩:=hS.at
 by_cases hkl:k<s.sights.length+1
 ·have k1:(k:Int)<(s.sights.length+1:Nat):=by omega
  have k4:IntKind.i64.wrap ((k:Int)+1)=(k+1:Nat):=wrap64 (by omega)
  obtain ⟨r,hr⟩:∃ r,s.sights.length+1 - k=r+1:=⟨s.sights.length+1 - k - 1,by omega⟩
  rw [hr] at hf
  rw [zBx] at hf
  simp only [go_sem,l50_0,k1,decide_true,c2,zB,zD,zC,reduceIte,reduceCtorEq,zA]
  refine zCb (E:=E _) n118 (drops1_ac s hv k [] .nilS 0 S' out .nil hS (by simp;omega) (by omega)) ?_ ?_
  ·intro x S2 hR
   cases hq:searchM (fun w=>possS (zAq s w)) s.sights.length k [] 0 with
   | some rr =>
    rw [hq] at hR hf
    obtain ⟨hx,v',hv',hS2⟩:=hR
    cases hx
    cases hf
    obtain ⟨d0,d1,d2⟩:=hS2.at
    simp only [go_sem,d1,Tryz.f50,zB,zD,zC,reduceIte,reduceCtorEq,zA]
    exact ⟨_,rfl,Frz.two (hv'.frz _) (.same _)⟩
   | none =>
    rw [hq] at hR hf
    obtain ⟨hx,v',hS2⟩:=hR
    cases hx
    simp only [go_sem,k4,zB,zD,zC,reduceIte,reduceCtorEq,zA]
    exact zAj (s.sights.length+1 - (k+1)) (by omega) ⟨k+1,v',hkl,rfl,rfl,hS2,by rw [show s.sights.length+1 - (k+1)=r by omega];exact hf⟩
  ·intro x S2 hR
   exfalso
   revert hR
   split
   ·exact fun hh=>nomatch hh.1
   ·exact fun hh=>nomatch hh.1
 ·rw [show s.sights.length+1 - k=0 by omega] at hf
  cases hf
end Go.Av.Lx
end
section
set_option maxHeartbeats 2000000
namespace Go.Av.Lx
open Go Go.Av Go.Av.Tb Go.Av.Fx Go.Proofs
open Go.Lv (Sight Survey Sw Sv SightOk keepS zAq dropsS blamesS possS searchM shortM firstI dropM)
open Go.Fw (Sq ent Bd Mat)
end Go.Av.Lx
end
section
set_option maxHeartbeats 2000000
namespace Go.Av.Lx
open Go Go.Av Go.Av.Tb Go.Av.Fx Go.Proofs
open Go.Lv (Sight Survey Sw Sv SightOk keepS zAq dropsS blamesS possS searchM shortM firstI dropM)
open Go.Fw (Sq ent Bd Mat)
end Go.Av.Lx
end
section
set_option maxHeartbeats 2000000
namespace Go.Av.Lx
open Go Go.Av Go.Av.Tb Go.Av.Fx Go.Proofs
open Go.Lv (Sight Survey Sw Sv SightOk Stp bgS enS stpD chainB closedB ringB stepB)
open Go.Fw (Sq ent Bd Mat)
theorem mapGet {S:St} {i:Nat} {ks:List Int} (h:S.heap[i]? = some (some (.map (metA ks)))) (n:Int):lookupA T S 181 (.map i) (.int .i64 n) false=some (.bool (ks.contains n)):=by
 have d1:descOf T 181=some (.map 3 4):=rfl
 have d2:descOf T 3=some (.int .i64):=rfl
 have d3:T 4=some ti4:=rfl
 have d4:aggD ti4.desc=false:=rfl
 simp only [lookupA,d1,d2,d3,h,isKey,d4,and_self,if_true]
 cases hc:ks.contains n
 ·rw [((zEn n ks 0).1 hc)];rfl
 ·obtain ⟨j,h1,h2⟩:=(zEn n ks 0).2 hc
  rw [h1];rfl
theorem up_bd {s:Survey} (h:Sw s) {x:Stp} (hx:InS s x):-1050≤upSt s x∧upSt s x≤1050:=(h.bd _ (Lv.step_mem hx)).2.2.2
theorem tot_bd {s:Survey} (h:Sw s):∀ {l:List Stp},Lv.StepsIn s l → -1050 * (l.length:Int)≤Wk.tot (stepB s) l∧Wk.tot (stepB s) l≤1050 * l.length
 | [],_=>by show -1050 * ((0:Nat):Int)≤0∧(0:Int)≤1050 * ((0:Nat):Int);omega
 | x :: l,hl=>by
  have h1:=tot_bd h (l:=l) fun y hy=>hl y (zR _ hy)
  have h2:=up_bd h (hl x zP)
  unfold upSt at h2
  show -1050 * ((l.length+1:Nat):Int)≤(stepB s x).m+Wk.tot (stepB s) l∧(stepB s x).m+Wk.tot (stepB s) l≤1050 * ((l.length+1:Nat):Int)
  omega
end Go.Av.Lx
end
section
set_option maxHeartbeats 2000000
namespace Go.Av.Lx
open Go Go.Av Go.Av.Tb Go.Av.Fx Go.Proofs
open Go.Lv (Sight Survey Sw Sv SightOk Stp bgS enS riseS stpD chainB closedB ringB ringA ringR stepB stpAt firstI shortR)
open Go.Fw (Sq ent Bd Mat)

end Go.Av.Lx
end
section
set_option maxHeartbeats 2000000
namespace Go.Av.Lx
open Go Go.Av Go.Av.Tb Go.Av.Fx Go.Proofs
open Go.Lv (Sight Survey Sw Sv SightOk Stp ringB ringA ringR firstI shortR)
open Go.Fw (Sq ent Bd Mat)

end Go.Av.Lx
end
section
namespace Go.Proofs
open Go.Shelf
def Tryz.lays156_ren:Go.Shelf.Ren:=⟨fun | 156=>163 | 165=>181 | 166=>182 | 169=>183 | 240=>191 | 241=>192 | 276=>201 | 277=>202 | n=>n,fun | 31=>171 | 9=>9 | 3=>3 | 4=>4 | 0=>0 | 20=>20 | 72=>232 | 76=>236 | 70=>230 | 37=>106 | 75=>235 | 127=>250 | 164=>259 | 5=>5 | 80=>238 | n=>n,fun | n=>n⟩
theorem Tryz.lays156:Go.Proofs.Lays.n156 Tryz.prog Tryz.lays156_ren:={
 mixed:=by kernel_rfl
 f156:=Tryz.func163.trans (congrArg some (by kernel_rfl))
 f165:=Tryz.func181.trans (congrArg some (by kernel_rfl))
 f166:=Tryz.func182.trans (congrArg some (by kernel_rfl))
 f169:=Tryz.func183.trans (congrArg some (by kernel_rfl))
 f240:=Tryz.func191.trans (congrArg some (by kernel_rfl))
 f241:=Tryz.func192.trans (congrArg some (by kernel_rfl))
 f276:=Tryz.func201.trans (congrArg some (by kernel_rfl))
 f277:=Tryz.func202.trans (congrArg some (by kernel_rfl))
 t0:=Tryz.underlying0
 a0:=Tryz.isAgg0
 z0:=Tryz.sizeOf0
 v0:=Tryz.zeroValue0
 t3:=Tryz.underlying3
 a3:=Tryz.isAgg3
 z3:=Tryz.sizeOf3
 v3:=Tryz.zeroValue3
 t4:=Tryz.underlying4
 a4:=Tryz.isAgg4
 z4:=Tryz.sizeOf4
 v4:=Tryz.zeroValue4
 t9:=Tryz.underlying9
 a9:=Tryz.isAgg9
 z9:=Tryz.sizeOf9
 v9:=Tryz.zeroValue9
 t20:=Tryz.underlying20
 a20:=Tryz.isAgg20
 z20:=Tryz.sizeOf20
 v20:=Tryz.zeroValue20
 t31:=Tryz.underlying171
 a31:=Tryz.isAgg171
 z31:=Tryz.sizeOf171
 v31:=Tryz.zeroValue171
 t37:=Tryz.underlying106
 a37:=Tryz.isAgg106
 z37:=Tryz.sizeOf106
 v37:=Tryz.zeroValue106
 t70:=Tryz.underlying230
 a70:=Tryz.isAgg230
 z70:=Tryz.sizeOf230
 v70:=Tryz.zeroValue230
 t72:=Tryz.underlying232
 a72:=Tryz.isAgg232
 z72:=Tryz.sizeOf232
 v72:=Tryz.zeroValue232
 t75:=Tryz.underlying235
 a75:=Tryz.isAgg235
 z75:=Tryz.sizeOf235
 v75:=Tryz.zeroValue235
 t76:=Tryz.underlying236
 a76:=Tryz.isAgg236
 z76:=Tryz.sizeOf236
 v76:=Tryz.zeroValue236
 t127:=Tryz.underlying250
 a127:=Tryz.isAgg250
 z127:=Tryz.sizeOf250
 v127:=Tryz.zeroValue250
 t164:=Tryz.underlying259
 a164:=Tryz.isAgg259
 z164:=Tryz.sizeOf259
 v164:=Tryz.zeroValue259 }
theorem Tryz.Builder_Extra_156:Builder.Extra Tryz.prog Tryz.lays156_ren:={
 sizeBuilder:=by kernel_rfl
 liesBuilder:=by kernel_rfl
 t5:=Tryz.underlying5
 a5:=Tryz.isAgg5
 z5:=Tryz.sizeOf5
 v5:=Tryz.zeroValue5
 infoByte:=by kernel_rfl
 cellsByte:=by kernel_rfl
 sizeByte:=by kernel_rfl
 neB5:=by decide }
open Go.RowKit in
theorem Tryz.strings_Join_none (a:Option Addr) (c:Nat) (sep:ByteArray) (w:World) :
  Calls Tryz.prog 163 #[.slice a 0 c,.string sep] w fun e w'=>e=.returned (.string ⟨#[]⟩)∧w'=w:=Any.strings_Join_none Tryz.lays156 Tryz.Builder_Extra_156 a c sep w
open Go.RowKit in
theorem Tryz.strings_Join (bk o c:Nat) (xs:List ByteArray) (sep:ByteArray) (w:World) (hcells:∀ (j:Nat) x,xs[j]? = some x→w.cell? ⟨bk,o+j,none⟩=some (.string x)) (hbk:bk<w.heap.size) (hN:xs.length≤140737488355328) (hcap:xs.length≤c) (hlen:(Lib.join (xs.map (·.data.toList)) sep.data.toList).length≤140737488355328) :
  Calls Tryz.prog 163 #[.slice (some ⟨bk,o,none⟩) xs.length c,.string sep] w fun e w'=>e=.returned (.string ⟨(Lib.join (xs.map (·.data.toList)) sep.data.toList).toArray⟩)∧Below w.heap.size w w':=Any.strings_Join Tryz.lays156 Tryz.Builder_Extra_156 bk o c xs sep w hcells hbk hN hcap hlen
def Tryz.laysM171_ren:Go.Shelf.Ren:=⟨fun | 171=>162 | 243=>180 | 246=>190 | 283=>197 | 284=>198 | 285=>199 | 286=>200 | 129=>209 | 317=>208 | 318=>210 | 319=>211 | 320=>212 | 337=>219 | 338=>220 | n=>n,fun | 3=>3 | 9=>9 | 2=>2 | 4=>4 | 171=>254 | 0=>0 | 53=>245 | 37=>106 | 5=>5 | 173=>257 | 212=>266 | 51=>242 | 20=>20 | 213=>267 | 46=>222 | 232=>276 | 233=>277 | n=>n,fun | 17=>0 | 18=>4 | 19=>5 | n=>n⟩
theorem Tryz.laysM171:Go.Proofs.LaysM.n171 Tryz.prog Tryz.laysM171_ren:={
 mixed:=by kernel_rfl
 f129:=Tryz.func209.trans (congrArg some (by kernel_rfl))
 f171:=Tryz.func162.trans (congrArg some (by kernel_rfl))
 f243:=Tryz.func180.trans (congrArg some (by kernel_rfl))
 f246:=Tryz.func190.trans (congrArg some (by kernel_rfl))
 f283:=Tryz.func197.trans (congrArg some (by kernel_rfl))
 f284:=Tryz.func198.trans (congrArg some (by kernel_rfl))
 f285:=Tryz.func199.trans (congrArg some (by kernel_rfl))
 f286:=Tryz.func200.trans (congrArg some (by kernel_rfl))
 f317:=Tryz.func208.trans (congrArg some (by kernel_rfl))
 f318:=Tryz.func210.trans (congrArg some (by kernel_rfl))
 f319:=Tryz.func211.trans (congrArg some (by kernel_rfl))
 f320:=Tryz.func212.trans (congrArg some (by kernel_rfl))
 f337:=Tryz.func219.trans (congrArg some (by kernel_rfl))
 f338:=Tryz.func220.trans (congrArg some (by kernel_rfl))
 t0:=Tryz.underlying0
 a0:=Tryz.isAgg0
 z0:=Tryz.sizeOf0
 v0:=Tryz.zeroValue0
 t2:=Tryz.underlying2
 a2:=Tryz.isAgg2
 z2:=Tryz.sizeOf2
 v2:=Tryz.zeroValue2
 t3:=Tryz.underlying3
 a3:=Tryz.isAgg3
 z3:=Tryz.sizeOf3
 v3:=Tryz.zeroValue3
 t4:=Tryz.underlying4
 a4:=Tryz.isAgg4
 z4:=Tryz.sizeOf4
 v4:=Tryz.zeroValue4
 t5:=Tryz.underlying5
 a5:=Tryz.isAgg5
 z5:=Tryz.sizeOf5
 v5:=Tryz.zeroValue5
 t9:=Tryz.underlying9
 a9:=Tryz.isAgg9
 z9:=Tryz.sizeOf9
 v9:=Tryz.zeroValue9
 t20:=Tryz.underlying20
 a20:=Tryz.isAgg20
 z20:=Tryz.sizeOf20
 v20:=Tryz.zeroValue20
 t37:=Tryz.underlying106
 a37:=Tryz.isAgg106
 z37:=Tryz.sizeOf106
 v37:=Tryz.zeroValue106
 t46:=Tryz.underlying222
 a46:=Tryz.isAgg222
 z46:=Tryz.sizeOf222
 v46:=Tryz.zeroValue222
 t51:=Tryz.underlying242
 a51:=Tryz.isAgg242
 z51:=Tryz.sizeOf242
 v51:=Tryz.zeroValue242
 t53:=Tryz.underlying245
 a53:=Tryz.isAgg245
 z53:=Tryz.sizeOf245
 v53:=Tryz.zeroValue245
 t171:=Tryz.underlying254
 a171:=Tryz.isAgg254
 z171:=Tryz.sizeOf254
 v171:=Tryz.zeroValue254
 t173:=Tryz.underlying257
 a173:=Tryz.isAgg257
 z173:=Tryz.sizeOf257
 v173:=Tryz.zeroValue257
 t212:=Tryz.underlying266
 a212:=Tryz.isAgg266
 z212:=Tryz.sizeOf266
 v212:=Tryz.zeroValue266
 t213:=Tryz.underlying267
 a213:=Tryz.isAgg267
 z213:=Tryz.sizeOf267
 t232:=Tryz.underlying276
 a232:=Tryz.isAgg276
 z232:=Tryz.sizeOf276
 v232:=Tryz.zeroValue276
 t233:=Tryz.underlying277
 a233:=Tryz.isAgg277
 z233:=Tryz.sizeOf277
 v233:=Tryz.zeroValue277
 g17:=by kernel_rfl
 g18:=by kernel_rfl
 g19:=by kernel_rfl
 i0:=by kernel_rfl
 i2:=by kernel_rfl
 i3:=by kernel_rfl
 i4:=by kernel_rfl
 i5:=by kernel_rfl
 i9:=by kernel_rfl
 i20:=by kernel_rfl
 i37:=by kernel_rfl
 i46:=by kernel_rfl
 i51:=by kernel_rfl
 i53:=by kernel_rfl
 i171:=by kernel_rfl
 i173:=by kernel_rfl
 i212:=by kernel_rfl
 i232:=by kernel_rfl
 i233:=by kernel_rfl
 m17:=by kernel_rfl
 m18:=by kernel_rfl
 m19:=by kernel_rfl }
open Go.RowKit Go.Sort Go.Lib in
theorem Tryz.strconv_Itoa (n:Int) (h0:-9223372036854775808≤n) (h1:n≤9223372036854775807) (w:World) (htab:Lib.TabIs Tryz.prog w "internal/strconv.uint64pow10" .u64 Lib.pow10Tab) :
  Calls Tryz.prog 162 #[.int .i64 n] w fun e w'=>e=.returned (.string ⟨(Lib.itoa n).toArray⟩) ∧ ∃ k os,w'=grow (w.drewN k) os:=Any.strconv_Itoa Tryz.laysM171 n h0 h1 w htab
def Tryz.lays143_ren:Go.Shelf.Ren:=⟨fun | 143=>195 | 219=>206 | 217=>214 | 225=>215 | 224=>216 | 267=>217 | 266=>221 | 314=>222 | n=>n,fun | 9=>9 | 3=>3 | 4=>4 | 5=>5 | 46=>222 | 146=>243 | 51=>242 | n=>n,fun | 1=>1 | n=>n⟩
theorem Tryz.lays143:Go.Proofs.Lays.n143 Tryz.prog Tryz.lays143_ren:={
 mixed:=by kernel_rfl
 f143:=Tryz.func195.trans (congrArg some (by kernel_rfl))
 f217:=Tryz.func214.trans (congrArg some (by kernel_rfl))
 f219:=Tryz.func206.trans (congrArg some (by kernel_rfl))
 f224:=Tryz.func216.trans (congrArg some (by kernel_rfl))
 f225:=Tryz.func215.trans (congrArg some (by kernel_rfl))
 f266:=Tryz.func221.trans (congrArg some (by kernel_rfl))
 f267:=Tryz.func217.trans (congrArg some (by kernel_rfl))
 f314:=Tryz.func222.trans (congrArg some (by kernel_rfl))
 t3:=Tryz.underlying3
 a3:=Tryz.isAgg3
 z3:=Tryz.sizeOf3
 v3:=Tryz.zeroValue3
 t4:=Tryz.underlying4
 a4:=Tryz.isAgg4
 z4:=Tryz.sizeOf4
 v4:=Tryz.zeroValue4
 t5:=Tryz.underlying5
 a5:=Tryz.isAgg5
 z5:=Tryz.sizeOf5
 v5:=Tryz.zeroValue5
 t9:=Tryz.underlying9
 a9:=Tryz.isAgg9
 z9:=Tryz.sizeOf9
 v9:=Tryz.zeroValue9
 t46:=Tryz.underlying222
 a46:=Tryz.isAgg222
 z46:=Tryz.sizeOf222
 v46:=Tryz.zeroValue222
 t51:=Tryz.underlying242
 a51:=Tryz.isAgg242
 z51:=Tryz.sizeOf242
 v51:=Tryz.zeroValue242
 t146:=Tryz.underlying243
 a146:=Tryz.isAgg243
 z146:=Tryz.sizeOf243
 v146:=Tryz.zeroValue243
 g1:=by kernel_rfl }
open Go.RowKit Go.Lib in
theorem Tryz.strings_Index_one (s:ByteArray) (c:UInt8) (w:World) :
  Calls Tryz.prog 195 #[.string s,.string ⟨#[c]⟩] w fun e w'=>e=.returned (.int .i64 (Lib.indexByte s.data.toList c))∧w'=w:=Any.strings_Index_one Tryz.lays143 s c w
def Tryz.lays138_ren:Go.Shelf.Ren:=⟨fun | 138=>194 | 195=>203 | 218=>205 | 143=>195 | 219=>206 | 217=>214 | 225=>215 | 224=>216 | 267=>217 | 266=>221 | 314=>222 | n=>n,fun | 9=>9 | 3=>3 | 4=>4 | 5=>5 | 0=>0 | 46=>222 | 146=>243 | 51=>242 | n=>n,fun | 1=>1 | n=>n⟩
theorem Tryz.lays138:Go.Proofs.Lays.n138 Tryz.prog Tryz.lays138_ren:={
 mixed:=by kernel_rfl
 f138:=Tryz.func194.trans (congrArg some (by kernel_rfl))
 f143:=Tryz.func195.trans (congrArg some (by kernel_rfl))
 f195:=Tryz.func203.trans (congrArg some (by kernel_rfl))
 f217:=Tryz.func214.trans (congrArg some (by kernel_rfl))
 f218:=Tryz.func205.trans (congrArg some (by kernel_rfl))
 f219:=Tryz.func206.trans (congrArg some (by kernel_rfl))
 f224:=Tryz.func216.trans (congrArg some (by kernel_rfl))
 f225:=Tryz.func215.trans (congrArg some (by kernel_rfl))
 f266:=Tryz.func221.trans (congrArg some (by kernel_rfl))
 f267:=Tryz.func217.trans (congrArg some (by kernel_rfl))
 f314:=Tryz.func222.trans (congrArg some (by kernel_rfl))
 t0:=Tryz.underlying0
 a0:=Tryz.isAgg0
 z0:=Tryz.sizeOf0
 v0:=Tryz.zeroValue0
 t3:=Tryz.underlying3
 a3:=Tryz.isAgg3
 z3:=Tryz.sizeOf3
 v3:=Tryz.zeroValue3
 t4:=Tryz.underlying4
 a4:=Tryz.isAgg4
 z4:=Tryz.sizeOf4
 v4:=Tryz.zeroValue4
 t5:=Tryz.underlying5
 a5:=Tryz.isAgg5
 z5:=Tryz.sizeOf5
 v5:=Tryz.zeroValue5
 t9:=Tryz.underlying9
 a9:=Tryz.isAgg9
 z9:=Tryz.sizeOf9
 v9:=Tryz.zeroValue9
 t46:=Tryz.underlying222
 a46:=Tryz.isAgg222
 z46:=Tryz.sizeOf222
 v46:=Tryz.zeroValue222
 t51:=Tryz.underlying242
 a51:=Tryz.isAgg242
 z51:=Tryz.sizeOf242
 v51:=Tryz.zeroValue242
 t146:=Tryz.underlying243
 a146:=Tryz.isAgg243
 z146:=Tryz.sizeOf243
 v146:=Tryz.zeroValue243
 g1:=by kernel_rfl }
open Go.RowKit Go.Lib in
theorem Tryz.strings_Count_one (s:ByteArray) (c:UInt8) (w:World) :
  Calls Tryz.prog 194 #[.string s,.string ⟨#[c]⟩] w fun e w'=>e=.returned (.int .i64 (Lib.countByte s.data.toList c))∧w'=w:=Any.strings_Count_one Tryz.lays138 s c w
def Tryz.lays221_ren:Go.Shelf.Ren:=⟨fun | 221=>184 | 268=>193 | 138=>194 | 143=>195 | 195=>203 | 197=>204 | 218=>205 | 219=>206 | 260=>213 | 217=>214 | 225=>215 | 224=>216 | 267=>217 | 266=>221 | 314=>222 | n=>n,fun | 9=>9 | 3=>3 | 31=>171 | 4=>4 | 0=>0 | 105=>262 | 21=>21 | 5=>5 | 46=>222 | 119=>271 | 139=>274 | 138=>273 | 146=>243 | 51=>242 | n=>n,fun | 1=>1 | 3=>2 | 4=>3 | n=>n⟩
theorem Tryz.lays221:Go.Proofs.Lays.n221 Tryz.prog Tryz.lays221_ren:={
 mixed:=by kernel_rfl
 f138:=Tryz.func194.trans (congrArg some (by kernel_rfl))
 f143:=Tryz.func195.trans (congrArg some (by kernel_rfl))
 f195:=Tryz.func203.trans (congrArg some (by kernel_rfl))
 f197:=Tryz.func204.trans (congrArg some (by kernel_rfl))
 f217:=Tryz.func214.trans (congrArg some (by kernel_rfl))
 f218:=Tryz.func205.trans (congrArg some (by kernel_rfl))
 f219:=Tryz.func206.trans (congrArg some (by kernel_rfl))
 f221:=Tryz.func184.trans (congrArg some (by kernel_rfl))
 f224:=Tryz.func216.trans (congrArg some (by kernel_rfl))
 f225:=Tryz.func215.trans (congrArg some (by kernel_rfl))
 f260:=Tryz.func213.trans (congrArg some (by kernel_rfl))
 f266:=Tryz.func221.trans (congrArg some (by kernel_rfl))
 f267:=Tryz.func217.trans (congrArg some (by kernel_rfl))
 f268:=Tryz.func193.trans (congrArg some (by kernel_rfl))
 f314:=Tryz.func222.trans (congrArg some (by kernel_rfl))
 t0:=Tryz.underlying0
 a0:=Tryz.isAgg0
 z0:=Tryz.sizeOf0
 v0:=Tryz.zeroValue0
 t3:=Tryz.underlying3
 a3:=Tryz.isAgg3
 z3:=Tryz.sizeOf3
 v3:=Tryz.zeroValue3
 t4:=Tryz.underlying4
 a4:=Tryz.isAgg4
 z4:=Tryz.sizeOf4
 v4:=Tryz.zeroValue4
 t5:=Tryz.underlying5
 a5:=Tryz.isAgg5
 z5:=Tryz.sizeOf5
 v5:=Tryz.zeroValue5
 t9:=Tryz.underlying9
 a9:=Tryz.isAgg9
 z9:=Tryz.sizeOf9
 v9:=Tryz.zeroValue9
 t21:=Tryz.underlying21
 a21:=Tryz.isAgg21
 z21:=Tryz.sizeOf21
 v21:=Tryz.zeroValue21
 t31:=Tryz.underlying171
 a31:=Tryz.isAgg171
 z31:=Tryz.sizeOf171
 v31:=Tryz.zeroValue171
 t46:=Tryz.underlying222
 a46:=Tryz.isAgg222
 z46:=Tryz.sizeOf222
 v46:=Tryz.zeroValue222
 t51:=Tryz.underlying242
 a51:=Tryz.isAgg242
 z51:=Tryz.sizeOf242
 v51:=Tryz.zeroValue242
 t105:=Tryz.underlying262
 a105:=Tryz.isAgg262
 z105:=Tryz.sizeOf262
 v105:=Tryz.zeroValue262
 t119:=Tryz.underlying271
 a119:=Tryz.isAgg271
 z119:=Tryz.sizeOf271
 t138:=Tryz.underlying273
 a138:=Tryz.isAgg273
 z138:=Tryz.sizeOf273
 v138:=Tryz.zeroValue273
 t139:=Tryz.underlying274
 a139:=Tryz.isAgg274
 z139:=Tryz.sizeOf274
 v139:=Tryz.zeroValue274
 t146:=Tryz.underlying243
 a146:=Tryz.isAgg243
 z146:=Tryz.sizeOf243
 v146:=Tryz.zeroValue243
 g1:=by kernel_rfl
 g3:=by kernel_rfl
 g4:=by kernel_rfl }
end Go.Proofs
end
