/- Part 23 of the proof. -/
import Derived.Test.YtclmbbofpaecaaaGreatDoorVc22
import Derived.Test.YtclmbbofpaecaaaGreatDoorVc19
set_option linter.all false
set_option linter.unusedVariables false
set_option linter.unusedSimpArgs false
set_option linter.unusedSectionVars false
open Bool renaming and_self → zJ, and_eq_true → zV, not_true → qC, not_false → qJ, false_and → qX, true_and → yW
open Int renaming toNat_natCast → qQ
open List renaming getElem?_eq_getElem → zF, getD_eq_getElem?_getD → zG, set_cons_succ → zH, set_cons_zero → zI, all_cons → zK, all_nil → zM, mem_cons_self → zP, getElem?_append_right → zR, length_append → zW, getElem_mem → zZ, take_succ_eq_append_getElem → qI, length_nil → qK, nil_append → qN, map_append → qY, range_succ → yF, take_length → yJ, mem_singleton → yS, length_map → yU
open Nat renaming reduceLeDiff → zA, reduceEqDiff → zB, reduceAdd → zC, reduceBEq → zD, le_of_ble_eq_true → zE, le_refl → zN, zero_le → qG, sub_self → yT, le_trans → yX
open Option renaming map_some → zX
section
set_option maxHeartbeats 2000000
namespace Go.Av.Lx
open Go Go.Av Go.Av.Tb Go.Av.Fx Go.Proofs
open Go.Lv (Sight Survey Sw Sv SightOk Try TryOk worstW bestAt)
open Go.Fw (Sq ent Bd Mat)
def tryD:Try:=⟨0,0,0⟩
theorem try_getD {l:List Try} {k:Nat} (h:k<l.length):l.getD k tryD=l[k]:=by rw [zG,zF h];rfl
def triesB (s:Survey) (l:List Try):Bool:=inB l.length 1 4 && !l.any (badTry s)
def tryW (V:Mat) (l:List Try) (i j:Nat) (k:Nat):Int:=worstW V (l.getD k tryD) i j
def takesA (s:Survey) (i j:Int) (l:List Try):AV:=betwA s i j (triesB s l) [.int .i64 0,.int .i64 0] fun V=>[.int .i64 (bestAt (tryW V l i.toNat j.toNat) (l.length - 1):Nat),.int .i64 (tryW V l i.toNat j.toNat (bestAt (tryW V l i.toNat j.toNat) (l.length - 1)))]
theorem Takes_pc (s:Survey) (hl:okL s.sights.length) (i j:Int) (l:List Try) (hll:okL l.length):PC Tryz.prog 47 [surA s,.int .i64 i,.int .i64 j,triesA l] (.pure (takesA s i j l)):=by
 refine PC.of_empty (AC.run (E_ok _) mix Tryz.func47 m47 rfl rfl rfl (zE rfl) ?_) (by simp [bndL,AV.bnd]) (zFc rfl fun _=>rfl)
 unfold takesA
 obtain ⟨fine,hfine⟩:∃ fine,triesB s l=fine:=⟨_,rfl⟩
 have key:∀ Q:AQ,Q .normal [(1,.int .i64 i),(2,.int .i64 j),(3,triesA l),(4,.ref 0 0),(11,.bool fine)] ⟨[some (.cells (surC s))],0,[]⟩→WC (E 64) (.region [1,2,3,4,11] r47_1) Q [(1,.int .i64 i),(2,.int .i64 j),(3,triesA l),(4,.ref 0 0)] ⟨[some (.cells (surC s))],0,[]⟩:=by
  intro Q hQ
  unfold triesB at hfine
  simp only [go_sem,zAa,zB,zD,zC,reduceIte,reduceCtorEq,zA]
  refine cp n100 (in_pc _ _ _) (SubL.refl _) ?_
  rw [show (decide ((l.length:Int) ≥ 1) && decide ((l.length:Int)≤4))=inB l.length 1 4 from rfl]
  cases h1:inB l.length 1 4
  ·rw [h1,qX] at hfine
   rw [← hfine] at hQ
   simp only [go_sem,zB,zD,zC,reduceIte,reduceCtorEq,zA]
   exact hQ
  rw [h1,yW] at hfine
  have hC:=containsFuncT_pc l hll 114 n114 [.eptr (surC s) 0] (by simp [bndL,AV.bnd]) (badTry s) (fun x _=>takes1_pc s x)
  simp only [go_sem,zB,zD,zC,reduceIte,reduceCtorEq,zA]
  refine cl n113 hC (LntL.cons (.same _ (by simp [AV.bnd])) (LntL.cons (Lnt.func1 (.ptr 0 0 _ rfl (by simp [bndL,AV.bnd]))) (LntL.nil _))) rfl ?_
  simp only [go_sem,zAn,hfine,zB,zD,zC,reduceIte,reduceCtorEq,zA]
  exact hQ
 obtain ⟨C,hC⟩:∃ C,MC.region [1,2,3,4,11] r47_1=C:=⟨_,rfl⟩
 unfold c47
 rw [hC]
 simp only [go_sem,boxA,zB,zD,zC,reduceIte,reduceCtorEq,zA]
 subst hC
 refine key _ ?_
 simp only [go_sem,zB,zD,zC,reduceIte,reduceCtorEq,zA]
 refine cp n84 (zCi s hl i j fine) (SubL.refl _) ?_
 rcases zDf s i j fine [.int .i64 0,.int .i64 0] (fun V=>[.int .i64 (bestAt (tryW V l i.toNat j.toNat) (l.length - 1):Nat),.int .i64 (tryW V l i.toNat j.toNat (bestAt (tryW V l i.toNat j.toNat) (l.length - 1)))]) with ⟨k,hk,_,e1,e2⟩ | ⟨V,hv,hf,hV,hj,e1,e2⟩
 ·rw [e1,hfine,e2]
  simp only [go_sem,zAc,hk,zAd,AV.cells,AV.one,zK,zM,zJ,splice,zI,zH,and_self,Tryz.f47,zB,zD,zC,reduceIte,reduceCtorEq,zA]
  all_goals rfl
 rw [e1,hfine,e2]
 rw [hf] at hfine
 unfold triesB at hfine
 rw [zV,Bool.not_eq_true'] at hfine
 obtain ⟨hin,hbad⟩:=hfine
 have hlen:1≤l.length∧l.length≤4:=by have:=inB_iff.1 hin;omega
 have htry:∀ x∈l,TryOk s.stations x:=fun x hx=>(try_iff hv.st).1 (by
  have:=List.any_eq_false.1 hbad x hx
  simpa using this)
 have hst:s.stations=(Lv.num s:Int):=by have:=hv.st;show _=((s.stations.toNat:Nat):Int);omega
 have hi:=hj.hi;have hjj:=hj.hj;have he:=hj.e1
 have ef:far=1099511627776:=rfl
 obtain ⟨a,rfl⟩:∃ a:Nat,i=a:=⟨i.toNat,by omega⟩
 obtain ⟨b,rfl⟩:∃ b:Nat,j=b:=⟨j.toNat,by omega⟩
 simp only [qQ] at he ⊢
 have ha:a<Lv.num s:=by omega
 have hb:b<Lv.num s:=by omega
 have hlt:ent V a b<far:=by omega
 clear e1 e2 key
 simp only [go_sem,zAc,kvC,zAa,zAd,AV.cells,AV.one,zK,zM,zJ,splice,zI,zH,and_self,zB,zD,zC,reduceIte,reduceCtorEq,zA]
 refine zAt (fun m ts' S' => ∃ k W nt tk X,k≤l.length∧m=l.length - k∧ts'=[(1,.int .i64 a),(2,.int .i64 b),(12,.ref 1 0),(14,W),(39,triesA l),(40,.int .i64 l.length),(41,.int .i64 (k:Nat))]∧S'=⟨[some (.cells (surC s)),some (.cells (kvC s (wS V)))] ++ X,nt,tk⟩∧Own (chos (tryW V l a b) k) k W nt tk) l.length ⟨0,.nilS,0,[],[],qG _,rfl,rfl,rfl,Own.nil _ _⟩ ?_
 rintro m ts' S' ⟨k,W,nt,tk,X,hk,rfl,rfl,rfl,ho⟩
 have c1:=fun q=>zAf X q
 have c2:=fun x B=>zAs X x B
 by_cases hkl:k<l.length
 ·have k1:(k:Int)<l.length:=by omega
  have k2:0≤(k:Int)∧(k:Int)<l.length:=by omega
  have k3:k * 3+3≤(triesC l).length:=by rw [triesC_len];omega
  have k4:IntKind.i64.wrap ((k:Int)+1)=(k+1:Nat):=wrap64 (by omega)
  have k5:=tries_at l k hkl
  have hx:=htry _ (zZ hkl)
  have hw:worstW V l[k] a b=tryW V l a b k:=by unfold tryW;rw [try_getD hkl]
  have hwp:=tryWorst_pc s hv.toSw hV l[k] hx ha hb hlt
  rw [hw] at hwp
  generalize l[k]=x at *
  simp only [go_sem,l47_0,k1,decide_true,k2,k3,k5,zAg,and_self,c1,c2,zAd,AV.cells,AV.one,zK,zM,zJ,splice,zI,zH,kvC,zB,zD,zC,reduceIte,reduceCtorEq,zA]
  refine cp n116 hwp (SubL.refl _) ?_
  simp only [go_sem,zAa,zB,zD,zC,reduceIte,reduceCtorEq,zA]
  refine zDl (lx:=[.int .i64 k,.int .i64 (tryW V l a b k)]) rowChoices ho (chos_len _ _) rfl (by decide) rfl (by omega) fun W' tk' g => ?_
  simp only [go_sem,k4,zB,zD,zC,reduceIte,reduceCtorEq,zA]
  refine zAh (l.length - (k+1)) (by omega) ⟨k+1,W',nt+1,tk',_,hkl,rfl,rfl,rfl, ?_⟩
  have:=g.own
  rw [chos_succ] at this
  exact this
 ·have k1:¬ (k:Int)<l.length:=by omega
  have ek:k=l.length:=by omega
  subst ek
  simp only [go_sem,l47_0,k1,decide_false,zB,zD,zC,reduceIte,reduceCtorEq,zA]
  refine cp n111 (best_pc (tryW V l a b) l.length (by omega) (by omega)) (SubL.cons ho.sub (SubL.refl _)) ?_
  simp only [go_sem,c1,c2,zAd,AV.cells,AV.one,zK,zM,zJ,splice,zI,zH,and_self,Tryz.f47,zB,zD,zC,reduceIte,reduceCtorEq,zA]
  all_goals rfl
end Go.Av.Lx
end
section
set_option maxHeartbeats 2000000
namespace Go.Av.Lx
open Go Go.Av Go.Av.Tb Go.Av.Fx Go.Proofs
open Go.Lv (Sight Survey Sw Sv SightOk Try TryOk worstW bestAt withS tried riseAt widthAt)
open Go.Fw (Sq ent Bd Mat)
theorem app_sgt0 (S:St) (tx:Tail):appendA T S 22 .nilS (.slice [] 0 tx)=some (.pure .nilS):=rfl
theorem sgts_one (l:List Sight):(sgts l).all AV.one=true:=cat_one (f:=sgtC) (fun _=>rfl) l
theorem zFf (l:List Sight) (x:Sight):sgts l ++ sgtC x=sgts (l ++ [x]):=cat_snoc (f:=sgtC) l x
theorem own_sq0s {l:List Sight} (hl:l.length≤100) {b:St} {tx:Tail} {nt:Nat} {toks:List Nat} {H:List (Option Blk)} {K:AV→St→Prop} {hK:Hold K}
  (next:∀ V' nt' toks',nt≤nt'→Own (sgts l) l.length V' nt' toks'→K V' ⟨H,nt',toks'⟩):sq K hK (appendA T b 22 .nilS (.slice (sgts l) l.length tx)) ⟨H,nt,toks⟩:=by
 rcases Nat.eq_zero_or_pos l.length with h | h
 ·have e:l=[]:=List.length_eq_zero_iff.1 h
  subst e
  rw [show sgts []=[] from rfl,qK,app_sgt0,sq_pure]
  exact next _ _ _ (zN _) (Own.nil _ _)
 ·refine own_sq (l:=[]) (n:=0) zDs (Own.nil _ _) rfl (by rw [zAx];omega) (by omega) (sgts_one l) (by omega) fun V' toks' g => ?_
  have:=g.own
  rw [qN,Nat.zero_add] at this
  exact next _ _ _ (by omega) this
@[go_sem] theorem bs_sgt (a b c d:Int):zAe T 22 1 [(0,.agg [.int .i64 a,.int .i64 b,.int .i64 c,.int .i64 d])]=some (.slice [.int .i64 a,.int .i64 b,.int .i64 c,.int .i64 d] 1 .exact):=rfl
theorem zDk {h:List (Option Blk)} {a b a' b':AV} (h1:Frz h a a') (h2:Frz h b b'):Frz h (.agg [a,b]) (.agg [a',b']):=
 .agg _ _ rfl fun j x y hx hy=>by
  match j,hx,hy with
  | 0,hx,hy=>simp at hx hy;subst hx;subst hy;exact h1
  | 1,hx,hy=>simp at hx hy;subst hx;subst hy;exact h2
  | j+2,hx,hy=>simp at hx
theorem With_pc (s:Survey) (hl:s.sights.length≤100) (y:Sight):PC Tryz.prog 55 [surA s,.agg (sgtC y)] (.pure (surA (withS s y))):=by
 refine PC.of_frz (AC.run (E_ok _) mix Tryz.func55 m55 rfl rfl rfl (zE rfl) ?_) (by simp [bndL,AV.bnd]) (by simp [bndL,AV.bnd])
 simp only [go_sem,boxA,zAd,AV.cells,AV.one,zK,zM,zJ,splice,zI,zH,and_self,zAa,zB,zD,zC,reduceIte,reduceCtorEq,zA]
 refine own_sq0s hl fun V1 nt1 tk1 _ o1 => ?_
 simp only [go_sem,zAa,zB,zD,zC,reduceIte,reduceCtorEq,zA]
 refine zDl (lx:=sgtC y) zDs o1 (by rw [zAx];omega) rfl (by decide) rfl (by omega) fun V2 tk2 g => ?_
 obtain ⟨q1,q2⟩:=g.own.cells
 have go:=g.own
 rw [zFf] at go
 simp only [go_sem,q1,q2,zAd,zK,zM,zJ,splice,zI,zH,and_self,zB,zD,zC,reduceIte,reduceCtorEq,zA]
 simp only [go_sem,zAd,AV.cells,q2,AV.one,zK,zM,zJ,splice,zI,zH,and_self,Tryz.f55,zB,zD,zC,reduceIte,reduceCtorEq,zA]
 refine ⟨_,rfl,zDk (.same _) ?_⟩
 rw [show (withS s y).sights=s.sights ++ [y] from rfl,zW,List.length_singleton]
 exact go.frz _
end Go.Av.Lx
end
section
set_option maxHeartbeats 2000000
namespace Go.Av.Lx
open Go Go.Av Go.Av.Tb Go.Av.Fx Go.Proofs
open Go.Lv (Sight Survey Sw Sv SightOk Try TryOk worstW bestAt withS tried riseAt widthAt withL)
open Go.Fw (Sq ent Bd Mat)

end Go.Av.Lx
end
section
set_option maxHeartbeats 2000000
namespace Go.Av.Lx
open Go Go.Av Go.Av.Tb Go.Av.Fx Go.Proofs
open Go.Lv (Sight Survey Sw Sv SightOk keepS zAj blamesS dropsS possS)
open Go.Fw (Sq ent Bd Mat)
theorem without_pc (s:Survey) (hl:s.sights.length≤100) (w:List Int) (hw:okL w.length):PC Tryz.prog 119 [surA s,sl w] (.pure (surA (zAj s w))):=by
 refine PC.of_frz (AC.run (E_ok _) mix Tryz.func119 m119 rfl rfl rfl (zE rfl) ?_) (by simp [bndL,AV.bnd]) (by simp [bndL,AV.bnd])
 have bd24:∀ a,buildA T 24 [(0,.int .i64 a)]=some (.agg [.int .i64 a,.nilS]):=fun a=>rfl
 simp only [go_sem,boxA,zAa,bd24,zAd,AV.cells,AV.one,zK,zM,zJ,splice,zI,zH,and_self,zB,zD,zC,reduceIte,reduceCtorEq,zA]
 refine zAt (fun m ts' S' => ∃ k W nt tk X,k≤s.sights.length∧m=s.sights.length - k∧ts'=[(1,sl w),(4,.ref 1 0),(5,.ref 2 0),(12,.slice (sgts s.sights) s.sights.length .unk),(13,.int .i64 s.sights.length),(14,.int .i64 (k:Nat))]∧S'=⟨[some (.cells (surC s)),some (.cells [.int .i64 0,.nilS]),some (.cells [.int .i64 s.stations,W])] ++ X,nt,tk⟩∧Own (sgts (keepS s w k)) (keepS s w k).length W nt tk) s.sights.length ⟨0,.nilS,0,[],[],qG _,rfl,rfl,rfl,Own.nil _ _⟩ ?_
 rintro m ts' S' ⟨k,W,nt,tk,X,hk,rfl,rfl,rfl,ho⟩
 have c1:=fun q=>zAf X q
 have c2:=fun x B=>zAs X x B
 by_cases hkl:k<s.sights.length
 ·have k1:(k:Int)<s.sights.length:=by omega
  have k2:0≤(k:Int)∧(k:Int)<s.sights.length:=by omega
  have k3:k * 4+4≤(sgts s.sights).length:=by rw [zAx];omega
  have k4:IntKind.i64.wrap ((k:Int)+1)=(k+1:Nat):=wrap64 (by omega)
  have k5:=zBy s.sights k hkl
  have hks:=Lv.keep_succ s w k
  have hg:s.sights.getD k Lv.sightZ=s.sights[k]:=by rw [zG,zF hkl];rfl
  have hkl2:=Lv.keep_len s w k
  rw [hg] at hks
  generalize s.sights[k]=x at *
  simp only [go_sem,l119_0,k1,decide_true,k2,k3,k5,zAg,and_self,c1,c2,zAd,AV.cells,AV.one,zK,zM,zJ,splice,zI,zH,zB,zD,zC,reduceIte,reduceCtorEq,zA]
  refine cp n160 (contains_pc w hw k) (SubL.refl _) ?_
  cases hc:w.contains (k:Int)
  ·rw [hc,if_neg (by decide)] at hks
   simp only [go_sem,zAn,qJ,c1,zAa,zB,zD,zC,reduceIte,reduceCtorEq,zA]
   refine zDl (lx:=sgtC x) zDs ho (by rw [zAx];omega) rfl (by decide) rfl (by omega) fun W' tk' g => ?_
   obtain ⟨q1,q2⟩:=g.own.cells
   simp only [go_sem,q1,q2,zAd,zK,zM,zJ,splice,zI,zH,and_self,k4,zB,zD,zC,reduceIte,reduceCtorEq,zA]
   refine zAh (s.sights.length - (k+1)) (by omega) ⟨k+1,W',nt+1,tk',_,hkl,rfl,rfl,rfl, ?_⟩
   have:=g.own
   rw [zFf] at this
   rw [hks,zW,List.length_singleton]
   exact this
  ·rw [hc,if_pos rfl] at hks
   simp only [go_sem,zAn,qC,k4,zB,zD,zC,reduceIte,reduceCtorEq,zA]
   exact zAh (s.sights.length - (k+1)) (by omega) ⟨k+1,W,nt,tk,_,hkl,rfl,rfl,rfl,by rw [hks];exact ho⟩
 ·have k1:¬ (k:Int)<s.sights.length:=by omega
  have ek:k=s.sights.length:=by omega
  subst ek
  have hfz:=fun H=>ho.frz H
  rcases ho with ⟨rfl,_,_⟩ | ⟨q,rfl,_,_⟩
  ·simp only [go_sem,l119_0,k1,decide_false,zAd,AV.cells,AV.one,zK,zM,zJ,splice,zI,zH,and_self,Tryz.f119,zB,zD,zC,reduceIte,reduceCtorEq,zA]
   exact ⟨_,rfl,zDk (.same _) (hfz _)⟩
  ·simp only [go_sem,l119_0,k1,decide_false,zAd,AV.cells,AV.one,zK,zM,zJ,splice,zI,zH,and_self,Tryz.f119,zB,zD,zC,reduceIte,reduceCtorEq,zA]
   exact ⟨_,rfl,zDk (.same _) (hfz _)⟩
def blamesA (s:Survey):AV:=if zAr s=true then .tuple [sl (blamesS s),.int .i64 0] else .tuple [.nilS,.int .i64 2]
theorem blamesA_bnd (s:Survey):(blamesA s).bnd 0 0=true:=by
 unfold blamesA
 split
 ·simp [AV.bnd,bndL]
 ·rfl
def blamesK (s:Survey) (k:Nat):List Int:=((List.range k).filter fun (i:Nat)=>possS (zAj s [(i:Int)])).map fun (i:Nat)=>(i:Int)
theorem blamesK_succ (s:Survey) (k:Nat):blamesK s (k+1)=if possS (zAj s [(k:Int)])=true then blamesK s k ++ [(k:Int)] else blamesK s k:=by
 unfold blamesK
 rw [yF,List.filter_append,qY]
 cases h:possS (zAj s [(k:Int)]) <;> simp [h]
theorem blamesK_len (s:Survey) (k:Nat):(blamesK s k).length≤k:=by
 unfold blamesK;rw [yU];exact yX (List.length_filter_le _ _) (by simp)
theorem Blames_pc (s:Survey) (hl:okL s.sights.length):PC Tryz.prog 51 [surA s] (.pure (blamesA s)):=by
 refine PC.of_frz (AC.run (E_ok _) mix Tryz.func51 m51 rfl rfl rfl (zE rfl) ?_) (by simp [bndL,AV.bnd]) (blamesA_bnd s)
 unfold blamesA
 simp only [go_sem,boxA,zB,zD,zC,reduceIte,reduceCtorEq,zA]
 refine cp n89 (zBz s hl) (SubL.refl _) ?_
 cases hs:zAr s
 ·simp only [go_sem,zAn,qJ,Tryz.f51,zB,zD,zC,reduceIte,reduceCtorEq,zA]
  exact ⟨_,rfl,.same _⟩
 have hv:=zDq.1 hs
 have hm:=hv.many
 rw [if_pos rfl]
 simp only [go_sem,zAn,qC,zAa,zB,zD,zC,reduceIte,reduceCtorEq,zA]
 refine zAt (fun m ts' S' => ∃ k W nt tk,k≤s.sights.length∧m=s.sights.length - k∧ts'=[(1,.ref 0 0),(4,W),(11,.int .i64 s.sights.length),(12,.int .i64 (k:Nat))]∧S'=⟨[some (.cells (surC s))],nt,tk⟩∧Own (ints (blamesK s k)) (blamesK s k).length W nt tk) s.sights.length ⟨0,.nilS,0,[],qG _,rfl,rfl,rfl,Own.nil _ _⟩ ?_
 rintro m ts' S' ⟨k,W,nt,tk,hk,rfl,rfl,rfl,ho⟩
 by_cases hkl:k<s.sights.length
 ·have k1:(k:Int)<s.sights.length:=by omega
  have k4:IntKind.i64.wrap ((k:Int)+1)=(k+1:Nat):=wrap64 (by omega)
  have hks:=blamesK_succ s k
  have hbl:=blamesK_len s k
  have hwp:=without_pc s (by omega) [(k:Int)] (by show 1<9223372036854775807;decide)
  have hsw:=Lv.without_sv hv [(k:Int)]
  have hpp:=zEk (zAj s [(k:Int)]) hsw.toSw (by have:=hsw.many;omega)
  simp only [go_sem,l51_0,k1,decide_true,zB,zD,zC,reduceIte,reduceCtorEq,zA]
  refine cp n119 hwp (SubL.cons (Sub.refl _) (SubL.cons (Sub.unk _ 1 .exact) (SubL.refl []))) ?_
  simp only [go_sem,zB,zD,zC,reduceIte,reduceCtorEq,zA]
  refine cp n107 hpp (SubL.refl _) ?_
  cases hp:possS (zAj s [(k:Int)])
  ·rw [hp,if_neg (by decide)] at hks
   simp only [go_sem,k4,zB,zD,zC,reduceIte,reduceCtorEq,zA]
   exact zAh (s.sights.length - (k+1)) (by omega) ⟨k+1,W,nt,tk,hkl,rfl,rfl,rfl,by rw [hks];exact ho⟩
  ·rw [hp,if_pos rfl] at hks
   simp only [go_sem,zAa,zB,zD,zC,reduceIte,reduceCtorEq,zA]
   refine zDl (lx:=[.int .i64 k]) rowInts ho (by simp) rfl (by decide) rfl (by omega) fun W' tk' g => ?_
   simp only [go_sem,k4,zB,zD,zC,reduceIte,reduceCtorEq,zA]
   refine zAh (s.sights.length - (k+1)) (by omega) ⟨k+1,W',nt+1,tk',hkl,rfl,rfl,rfl, ?_⟩
   have:=g.own
   rw [show [AV.int .i64 (k:Int)]=ints [(k:Int)] from rfl,zEb] at this
   rw [hks,zW,List.length_singleton]
   exact this
 ·have k1:¬ (k:Int)<s.sights.length:=by omega
  have ek:k=s.sights.length:=by omega
  subst ek
  simp only [go_sem,l51_0,k1,decide_false,Tryz.f51,zB,zD,zC,reduceIte,reduceCtorEq,zA]
  exact ⟨_,rfl,Frz.two (ho.frz _) (.same _)⟩
end Go.Av.Lx
end
section
set_option maxHeartbeats 2000000
namespace Go.Av.Lx
open Go Go.Av Go.Av.Tb Go.Av.Fx Go.Proofs
open Go.Lv (Sight Survey Sw Sv SightOk keepS zAj dropsS possS searchM shortM firstI dropM)
open Go.Fw (Sq ent Bd Mat)
abbrev drF:AV:=.func (.func 118) [] [.ref 1 0,.ref 0 0,.ref 2 0]
def DrSt (s:Survey) (out:AV) (S:St):Prop:=∃ ex,S.heap=some (.cells (surC s)) :: some (.cells [out]) :: some (.cells [drF]) :: ex
theorem DrSt.at {s:Survey} {out:AV} {S:St} (h:DrSt s out S):cellsAt S.heap 0=some (surC s)∧cellsAt S.heap 1=some [out]∧cellsAt S.heap 2=some [drF]:=by
 obtain ⟨ex,h⟩:=h
 rw [h]
 exact ⟨rfl,rfl,rfl⟩
theorem DrSt.set {s:Survey} {out:AV} {S:St} (h:DrSt s out S) (v:AV):DrSt s v { S with heap:=setH S.heap 1 (.cells [v]) }:=by
 obtain ⟨ex,h⟩:=h
 refine ⟨ex, ?_⟩
 show setH S.heap _ _=_
 rw [h];rfl
theorem zBe {β:Type} (f:Nat→Option β) (n r:Nat):firstI f n (r+1)=match f n with | some x=>some x | none=>firstI f (n+1) r:=rfl
theorem drops1_ac (s:Survey) (hv:Sv s) :
  ∀ (many:Nat) (now:List Int) (v:AV) (fr:Nat) (S:St) (out:AV),IsL v now→DrSt s out S→now.length+many≤s.sights.length→fr≤1000000 →
   AC Tryz.prog 118 [v,.int .i64 fr,.int .i64 many,.ref 1 0,.ref 0 0,.ref 2 0] S fun e S' =>
    match searchM (fun w=>possS (zAj s w)) s.sights.length many now fr with
    | some r=>e=.ret (.bool true) ∧ ∃ v',IsL v' r∧DrSt s v' S'
    | none=>e=.ret (.bool false) ∧ ∃ v',DrSt s v' S':=by
 have hb:=hv.many
 obtain ⟨below,hbelow⟩:∃ b,b=s.sights.length:=⟨_,rfl⟩
 rw [← hbelow] at hb ⊢
 intro many
 induction many with
 | zero =>
  intro now v fr S out hvl hS hlen hfr
  refine AC.run (Es_ok 39 S) mix Tryz.func118 m118 rfl rfl rfl (zE rfl) ?_
  have hz:decide (((0:Nat):Int)=0)=true:=rfl
  obtain ⟨c0,c1,c2⟩:=hS.at
  have o1:=hvl.one
  have cv:=cells_one o1
  have hS1:=hS.set v
  obtain ⟨d0,d1,d2⟩:=hS1.at
  have hwp:=without_pc s (by omega) now (by show now.length<9223372036854775807;omega)
  have hsw:=Lv.without_sv hv now
  have hpp:=zEk (zAj s now) hsw.toSw (by have:=hsw.many;omega)
  simp only [go_sem,hz,c0,c1,c2,o1,cv,zAd,zK,zM,zJ,splice,zI,zH,and_self,d0,d1,d2,zB,zD,zC,reduceIte,reduceCtorEq,zA]
  refine zCe (E:=Es 39 S) n119 hwp (SubL.cons (Sub.refl _) (SubL.cons hvl.sub (SubL.refl []))) ?_
  simp only [go_sem,zB,zD,zC,reduceIte,reduceCtorEq,zA]
  refine zCe (E:=Es 39 S) n107 hpp (SubL.refl _) ?_
  simp only [go_sem,Tryz.f118,zB,zD,zC,reduceIte,reduceCtorEq,zA]
  unfold searchM
  cases hp:possS (zAj s now)
  ·rw [if_neg (by decide)]
   exact ⟨rfl,v,hS1⟩
  ·rw [if_pos rfl]
   exact ⟨rfl,v,hvl,hS1⟩
 | succ many ih =>
  intro now v fr S out hvl hS hlen hfr
  refine AC.run (Es_ok 39 S) mix Tryz.func118 m118 rfl rfl rfl (zE rfl) ?_
  have hz:decide (((many+1:Nat):Int)=0)=false:=by rw [decide_eq_false_iff_not];omega
  obtain ⟨F,hF⟩:∃ F:Nat→Option (List Int),F=fun n:Nat=>searchM (fun w=>possS (zAj s w)) below many (now ++ [(n:Int)]) (n+1):=⟨_,rfl⟩
  have hsm:searchM (fun w=>possS (zAj s w)) below (many+1) now fr=firstI F fr (below+1 - (fr+(many+1))):=by rw [hF];rfl
  rw [hsm]
  simp only [go_sem,hz,zB,zD,zC,reduceIte,reduceCtorEq,zA]
  refine zAt (fun n ts S' => ∃ k out',n=(below+1 - (fr+(many+1))) - k∧k≤below+1 - (fr+(many+1))∧ts=[(0,v),(2,.int .i64 (many+1:Nat)),(4,.ref 0 0),(5,.ref 2 0),(10,.int .i64 (fr+k:Nat))]∧DrSt s out' S' ∧
   firstI F fr (below+1 - (fr+(many+1)))=firstI F (fr+k) ((below+1 - (fr+(many+1))) - k)) (below+1 - (fr+(many+1))) ⟨0,out,rfl,qG _,rfl,hS,rfl⟩ ?_
  rintro n ts S' ⟨k,out',hn,hk,rfl,hS',hres⟩
  obtain ⟨c0,c1,c2⟩:=hS'.at
  have w0:IntKind.i64.wrap (((fr+k:Nat):Int)+((many+1:Nat):Int))=(fr+k+(many+1):Nat):=by rw [wrap64 (by omega)];omega
  by_cases h':fr+k+(many+1)≤below
  ·have h1:((fr+k+(many+1):Nat):Int)≤s.sights.length:=by omega
   obtain ⟨r,hr⟩:∃ r,(below+1 - (fr+(many+1))) - k=r+1:=⟨(below+1 - (fr+(many+1))) - k - 1,by omega⟩
   rw [hr] at hres
   rw [zBe] at hres
   have eF:F (fr+k)=searchM (fun w=>possS (zAj s w)) below many (now ++ [((fr+k:Nat):Int)]) (fr+k+1):=by rw [hF]
   have w1:IntKind.i64.wrap (((fr+k:Nat):Int)+1)=(fr+k+1:Nat):=wrap64 (by omega)
   have w2:IntKind.i64.wrap (((many+1:Nat):Int) - 1)=(many:Nat):=by rw [wrap64 (by omega)];omega
   have ih':=fun v S hvl hS=>ih (now ++ [((fr+k:Nat):Int)]) v (fr+k+1) S out' hvl hS (by simp;omega) (by omega)
   rw [← eF] at ih'
   cases hvl with
   | nil =>
    simp only [go_sem,l118_0,c0,w0,h1,decide_true,zAa,zB,zD,zC,reduceIte,reduceCtorEq,zA]
    simp only [go_sem,c2,zB,zD,zC,reduceIte,reduceCtorEq,zA]
    refine zBq (E:=Es 39 S) n120 clone_nil (SubL.refl _) ?_
    have eN:appendA T S' 32 .nilS (.slice [.int .i64 (fr+k:Nat)] 1 .exact)=some (.tok none fun j=>.slice [.int .i64 (fr+k:Nat)] 1 (.tok j)):=rfl
    simp only [go_sem,w1,w2,zAa,eN,zB,zD,zC,reduceIte,reduceCtorEq,zA]
    refine zBf (E:=Es 39 S) n118 (ih' _ _ (show IsL (.slice (ints [((fr+k:Nat):Int)]) [((fr+k:Nat):Int)].length (.tok S'.nt)) _ from .row _ _ (by simp)) hS') ?_ ?_
    ·intro x S2 hR
     cases hq:F (fr+k) with
     | some rr =>
      rw [hq] at hR hres
      obtain ⟨hx,v',hv',hS2⟩:=hR
      cases hx
      simp only [go_sem,Tryz.f118,zB,zD,zC,reduceIte,reduceCtorEq,zA]
      rw [hres]
      exact ⟨v',hv',hS2⟩
     | none =>
      rw [hq] at hR hres
      obtain ⟨hx,v',hS2⟩:=hR
      cases hx
      simp only [go_sem,w1,zB,zD,zC,reduceIte,reduceCtorEq,zA]
      exact zAh ((below+1 - (fr+(many+1))) - (k+1)) (by omega) ⟨k+1,v',rfl,by omega,rfl,hS2,by rw [hres,show (below+1 - (fr+(many+1))) - (k+1)=r by omega];rfl⟩
    ·intro x S2 hR
     exfalso
     revert hR
     split
     ·exact fun hh=>nomatch hh.1
     ·exact fun hh=>nomatch hh.1
   | row _ t hne =>
    simp only [go_sem,l118_0,c0,w0,h1,decide_true,zAa,zB,zD,zC,reduceIte,reduceCtorEq,zA]
    simp only [go_sem,c2,zB,zD,zC,reduceIte,reduceCtorEq,zA]
    refine callq_tok (E:=Es 39 S) n120 (clone_pc now (by omega) hne) (SubL.cons (Sub.unk _ _ _) (SubL.refl [])) ?_
    have eN:appendA T S' 32 (.slice (ints now) now.length (.tok S'.nt)) (.slice [.int .i64 (fr+k:Nat)] 1 .exact)=some (.tok (some S'.nt) fun j=>.slice (ints now ++ [.int .i64 (fr+k:Nat)]) (now.length+1) (.tok j)):=
     zCr (e:=3) (ei:=ti3) (lx:=[.int .i64 (fr+k:Nat)]) (nx:=1) (tl:=.tok S'.nt) rfl rfl (by decide) rfl (by decide) rfl (by simp [ti3];omega) (by omega) (by simp [ti3])
    simp only [go_sem,w1,w2,zAa,eN,zB,zD,zC,reduceIte,reduceCtorEq,zA]
    refine ⟨zP, ?_⟩
    have elist:ints now ++ [.int .i64 (fr+k:Nat)]=ints (now ++ [((fr+k:Nat):Int)]):=by simp [ints]
    have elen:now.length+1=(now ++ [((fr+k:Nat):Int)]).length:=by simp
    rw [elist,elen]
    refine zBf (E:=Es 39 S) n118 (ih' _ _ (.row _ _ (by simp)) hS') ?_ ?_
    ·intro x S2 hR
     cases hq:F (fr+k) with
     | some rr =>
      rw [hq] at hR hres
      obtain ⟨hx,v',hv',hS2⟩:=hR
      cases hx
      simp only [go_sem,Tryz.f118,zB,zD,zC,reduceIte,reduceCtorEq,zA]
      rw [hres]
      exact ⟨v',hv',hS2⟩
     | none =>
      rw [hq] at hR hres
      obtain ⟨hx,v',hS2⟩:=hR
      cases hx
      simp only [go_sem,w1,zB,zD,zC,reduceIte,reduceCtorEq,zA]
      exact zAh ((below+1 - (fr+(many+1))) - (k+1)) (by omega) ⟨k+1,v',rfl,by omega,rfl,hS2,by rw [hres,show (below+1 - (fr+(many+1))) - (k+1)=r by omega];rfl⟩
    ·intro x S2 hR
     exfalso
     revert hR
     split
     ·exact fun hh=>nomatch hh.1
     ·exact fun hh=>nomatch hh.1
  ·have h1:¬ ((fr+k+(many+1):Nat):Int)≤s.sights.length:=by omega
   rw [show (below+1 - (fr+(many+1))) - k=0 by omega] at hres
   simp only [go_sem,l118_0,c0,w0,h1,decide_false,zAa,Tryz.f118,zB,zD,zC,reduceIte,reduceCtorEq,zA]
   rw [hres]
   exact ⟨out',hS'⟩
def dropsA (s:Survey):AV:=if zAr s=true then .tuple [sl (dropsS s),.int .i64 0] else .tuple [.nilS,.int .i64 2]
theorem dropsA_bnd (s:Survey):(dropsA s).bnd 0 0=true:=by
 unfold dropsA
 split
 ·simp [AV.bnd,bndL]
 ·rfl
theorem Drops_pc (s:Survey) (hl:okL s.sights.length):PC Tryz.prog 50 [surA s] (.pure (dropsA s)):=by
 refine PC.of_frz (AC.run (E_ok _) mix Tryz.func50 m50 rfl rfl rfl (zE rfl) ?_) (by simp [bndL,AV.bnd]) (dropsA_bnd s)
 unfold dropsA
 simp only [go_sem,boxA,zB,zD,zC,reduceIte,reduceCtorEq,zA]
 refine cp n89 (zBz s hl) (SubL.refl _) ?_
 cases hs:zAr s
 ·simp only [go_sem,zAn,qJ,Tryz.f50,zB,zD,zC,reduceIte,reduceCtorEq,zA]
  exact ⟨_,rfl,.same _⟩
 have hv:=zDq.1 hs
 have hm:=hv.many
 rw [if_pos rfl]
 have w0:IntKind.i64.wrap ((s.sights.length:Int)+1)=(s.sights.length+1:Nat):=wrap64 (by omega)
 have hd:=Lv.drops_is hv.toSw
 unfold shortM at hd
 simp only [go_sem,zAn,qC,zAa,w0,zAd,AV.cells,AV.one,zK,zM,zJ,splice,zI,zH,and_self,zB,zD,zC,reduceIte,reduceCtorEq,zA]
 refine zAt (fun m ts' S' => ∃ k out,k≤s.sights.length+1∧m=s.sights.length+1 - k∧ts'=[(4,.ref 1 0),(5,.ref 2 0),(14,.int .i64 (s.sights.length+1:Nat)),(15,.int .i64 (k:Nat))]∧DrSt s out S'∧firstI (fun many=>searchM (fun w=>possS (zAj s w)) s.sights.length many [] 0) k (s.sights.length+1 - k)=some (dropsS s)) (s.sights.length+1) ⟨0,.nilS,qG _,rfl,rfl,⟨[],rfl⟩,hd⟩ ?_
 rintro m ts' S' ⟨k,out,hk,rfl,rfl,hS,hf⟩
 obtain ⟨c0,c1,c2⟩:=hS.at
 by_cases hkl:k<s.sights.length+1
 ·have k1:(k:Int)<(s.sights.length+1:Nat):=by omega
  have k4:IntKind.i64.wrap ((k:Int)+1)=(k+1:Nat):=wrap64 (by omega)
  obtain ⟨r,hr⟩:∃ r,s.sights.length+1 - k=r+1:=⟨s.sights.length+1 - k - 1,by omega⟩
  rw [hr] at hf
  rw [zBe] at hf
  simp only [go_sem,l50_0,k1,decide_true,c2,zB,zD,zC,reduceIte,reduceCtorEq,zA]
  refine zBf (E:=E _) n118 (drops1_ac s hv k [] .nilS 0 S' out .nil hS (by simp;omega) (by omega)) ?_ ?_
  ·intro x S2 hR
   cases hq:searchM (fun w=>possS (zAj s w)) s.sights.length k [] 0 with
   | some rr =>
    rw [hq] at hR hf
    obtain ⟨hx,v',hv',hS2⟩:=hR
    cases hx
    cases hf
    obtain ⟨d0,d1,d2⟩:=hS2.at
    simp only [go_sem,d1,Tryz.f50,zB,zD,zC,reduceIte,reduceCtorEq,zA]
    exact ⟨_,rfl,Frz.two (hv'.frz _) (.same _)⟩
   | none =>
    rw [hq] at hR hf
    obtain ⟨hx,v',hS2⟩:=hR
    cases hx
    simp only [go_sem,k4,zB,zD,zC,reduceIte,reduceCtorEq,zA]
    exact zAh (s.sights.length+1 - (k+1)) (by omega) ⟨k+1,v',hkl,rfl,rfl,hS2,by rw [show s.sights.length+1 - (k+1)=r by omega];exact hf⟩
  ·intro x S2 hR
   exfalso
   revert hR
   split
   ·exact fun hh=>nomatch hh.1
   ·exact fun hh=>nomatch hh.1
 ·rw [show s.sights.length+1 - k=0 by omega] at hf
  cases hf
end Go.Av.Lx
end
section
set_option maxHeartbeats 2000000
namespace Go.Av.Lx
open Go Go.Av Go.Av.Tb Go.Av.Fx Go.Proofs
open Go.Lv (Sight Survey Sw Sv SightOk keepS zAj dropsS blamesS possS searchM shortM firstI dropM)
open Go.Fw (Sq ent Bd Mat)
theorem rWithout_pc (s:Survey) (hl:s.sights.length≤100) (w:List Int) (hw:okL w.length):PC Tryz.prog 54 [surA s,sl w] (.pure (surA (zAj s w))):=by
 refine PC.of_frz (AC.run (E_ok _) mix Tryz.func54 m54 rfl rfl rfl (zE rfl) ?_) (by simp [bndL,AV.bnd]) (by simp [bndL,AV.bnd])
 have bd24:∀ a,buildA T 24 [(0,.int .i64 a)]=some (.agg [.int .i64 a,.nilS]):=fun a=>rfl
 simp only [go_sem,boxA,zAa,bd24,zAd,AV.cells,AV.one,zK,zM,zJ,splice,zI,zH,and_self,zB,zD,zC,reduceIte,reduceCtorEq,zA]
 refine zAt (fun m ts' S' => ∃ k W nt tk,k≤s.sights.length∧m=s.sights.length - k∧ts'=[(1,sl w),(2,.ref 0 0),(4,.ref 1 0),(5,.ref 2 0),(6,.int .i64 (k:Nat))]∧S'=⟨[some (.cells (surC s)),some (.cells [.int .i64 0,.nilS]),some (.cells [.int .i64 s.stations,W])],nt,tk⟩∧Own (sgts (keepS s w k)) (keepS s w k).length W nt tk) s.sights.length ⟨0,.nilS,0,[],qG _,rfl,rfl,rfl,Own.nil _ _⟩ ?_
 rintro m ts' S' ⟨k,W,nt,tk,hk,rfl,rfl,rfl,ho⟩
 by_cases hkl:k<s.sights.length
 ·have k1:(k:Int)<s.sights.length:=by omega
  have k2:0≤(k:Int)∧(k:Int)<s.sights.length:=by omega
  have k3:k * 4+4≤(sgts s.sights).length:=by rw [zAx];omega
  have k4:IntKind.i64.wrap ((k:Int)+1)=(k+1:Nat):=wrap64 (by omega)
  have k5:=zBy s.sights k hkl
  have hks:=Lv.keep_succ s w k
  have hg:s.sights.getD k Lv.sightZ=s.sights[k]:=by rw [zG,zF hkl];rfl
  have hkl2:=Lv.keep_len s w k
  rw [hg] at hks
  generalize s.sights[k]=x at *
  simp only [go_sem,l54_0,zAa,k1,decide_true,zB,zD,zC,reduceIte,reduceCtorEq,zA]
  refine zDn w.length (fun j=>[(1,sl w),(2,.ref 0 0),(4,.ref 1 0),(5,.ref 2 0),(6,.int .i64 (k:Nat)),(7,.bool ((w.take j).contains (k:Int))),(8,.int .i64 (j:Nat))]) (fun _=>⟨[some (.cells (surC s)),some (.cells [.int .i64 0,.nilS]),some (.cells [.int .i64 s.stations,W])],nt,tk⟩) rfl rfl ?_
  intro j hj I hI
  by_cases hjl:j<w.length
  ·have j1:(j:Int)<w.length:=by omega
   have j2:0≤(j:Int)∧(j:Int)<w.length:=by omega
   have j4:IntKind.i64.wrap ((j:Int)+1)=(j+1:Nat):=wrap64 (by omega)
   have j5:w[j]? = some w[j]:=zF hjl
   have htk:(w.take (j+1)).contains (k:Int)=((w.take j).contains (k:Int) || decide (w[j]=(k:Int))):=by
    rw [qI hjl,Bool.eq_iff_iff,List.contains_iff_mem,List.mem_append,Bool.or_eq_true,List.contains_iff_mem,decide_eq_true_iff,yS]
    exact or_congr Iff.rfl eq_comm
   have hI:=hI hjl
   rw [htk] at hI
   cases hc:(w.take j).contains (k:Int)
   ·rw [hc,Bool.false_or] at hI
    simp only [go_sem,l54_1,zAa,j1,decide_true,j2,zAw,j5,zX,zAg,j4,zB,zD,zC,reduceIte,reduceCtorEq,zA]
    exact hI
   ·rw [hc,Bool.true_or] at hI
    simp only [go_sem,l54_1,zAa,j1,decide_true,j4,zB,zD,zC,reduceIte,reduceCtorEq,zA]
    exact hI
  ·have j1:¬ (j:Int)<w.length:=by omega
   have ej:j=w.length:=by omega
   subst ej
   rw [yJ]
   simp only [go_sem,l54_1,zAa,j1,decide_false,zB,zD,zC,reduceIte,reduceCtorEq,zA]
   cases hc:w.contains (k:Int)
   ·rw [hc,if_neg (by decide)] at hks
    simp only [go_sem,zAn,qJ,k2,k3,k5,zAg,and_self,zAa,zB,zD,zC,reduceIte,reduceCtorEq,zA]
    refine zDl (lx:=sgtC x) zDs ho (by rw [zAx];omega) rfl (by decide) rfl (by omega) fun W' tk' g => ?_
    obtain ⟨q1,q2⟩:=g.own.cells
    simp only [go_sem,q1,q2,zAd,zK,zM,zJ,splice,zI,zH,and_self,k4,zB,zD,zC,reduceIte,reduceCtorEq,zA]
    refine zAh (s.sights.length - (k+1)) (by omega) ⟨k+1,W',nt+1,tk',hkl,rfl,rfl,rfl, ?_⟩
    have:=g.own
    rw [zFf] at this
    rw [hks,zW,List.length_singleton]
    exact this
   ·rw [hc,if_pos rfl] at hks
    simp only [go_sem,zAn,qC,k4,zB,zD,zC,reduceIte,reduceCtorEq,zA]
    exact zAh (s.sights.length - (k+1)) (by omega) ⟨k+1,W,nt,tk,hkl,rfl,rfl,rfl,by rw [hks];exact ho⟩
 ·have k1:¬ (k:Int)<s.sights.length:=by omega
  have ek:k=s.sights.length:=by omega
  subst ek
  have hfz:=fun H=>ho.frz H
  rcases ho with ⟨rfl,_,_⟩ | ⟨q,rfl,_,_⟩
  ·simp only [go_sem,l54_0,zAa,k1,decide_false,zAd,AV.cells,AV.one,zK,zM,zJ,splice,zI,zH,and_self,Tryz.f54,zB,zD,zC,reduceIte,reduceCtorEq,zA]
   exact ⟨_,rfl,zDk (.same _) (hfz _)⟩
  ·simp only [go_sem,l54_0,zAa,k1,decide_false,zAd,AV.cells,AV.one,zK,zM,zJ,splice,zI,zH,and_self,Tryz.f54,zB,zD,zC,reduceIte,reduceCtorEq,zA]
   exact ⟨_,rfl,zDk (.same _) (hfz _)⟩
theorem rknown_is (s:Survey):∃ a b,rknownA s=.tuple [.agg [a,b],.bool (possS s)]∧AV.one a=true∧AV.one b=true:=by
 unfold rknownA possS
 cases Lv.knownV s with
 | none=>exact ⟨_,_,rfl,rfl,rfl⟩
 | some V=>exact ⟨_,_,rfl,rfl,rfl⟩
theorem rBlames_pc (s:Survey) (hv:Sv s):PC Tryz.prog 53 [surA s] (.pure (sl (blamesS s))):=by
 refine PC.of_frz (AC.run (E_ok _) mix Tryz.func53 m53 rfl rfl rfl (zE rfl) ?_) (by simp [bndL,AV.bnd]) (by simp [bndL,AV.bnd])
 have hm:=hv.many
 simp only [go_sem,boxA,zB,zD,zC,reduceIte,reduceCtorEq,zA]
 refine zAt (fun m ts' S' => ∃ k W nt tk X,k≤s.sights.length∧m=s.sights.length - k∧ts'=[(1,.ref 0 0),(3,W),(4,.int .i64 (k:Nat))]∧S'=⟨[some (.cells (surC s))] ++ X,nt,tk⟩∧Own (ints (blamesK s k)) (blamesK s k).length W nt tk) s.sights.length ⟨0,.nilS,0,[],[],qG _,rfl,rfl,rfl,Own.nil _ _⟩ ?_
 rintro m ts' S' ⟨k,W,nt,tk,X,hk,rfl,rfl,rfl,ho⟩
 have c1:=fun q=>zAf X q
 have c2:=fun x B=>zAs X x B
 by_cases hkl:k<s.sights.length
 ·have k1:(k:Int)<s.sights.length:=by omega
  have k4:IntKind.i64.wrap ((k:Int)+1)=(k+1:Nat):=wrap64 (by omega)
  have hks:=blamesK_succ s k
  have hbl:=blamesK_len s k
  have hwp:=rWithout_pc s (by omega) [(k:Int)] (by show 1<9223372036854775807;decide)
  have hsw:=Lv.without_sv hv [(k:Int)]
  have hkp:=rKnown_pc (zAj s [(k:Int)]) hsw.toSw (by have:=hsw.many;omega)
  obtain ⟨a,b,e,oa,ob⟩:=rknown_is (zAj s [(k:Int)])
  rw [e] at hkp
  simp only [go_sem,l53_0,zAa,k1,decide_true,zB,zD,zC,reduceIte,reduceCtorEq,zA]
  refine cp n54 hwp (SubL.cons (Sub.refl _) (SubL.cons (Sub.unk _ 1 .exact) (SubL.refl []))) ?_
  simp only [go_sem,zB,zD,zC,reduceIte,reduceCtorEq,zA]
  refine cp n65 hkp (SubL.refl _) ?_
  have hcl:AV.cells (.agg [a,b])=[a,b]:=rfl
  simp only [go_sem,zAc,c1,c2,zAd,hcl,oa,ob,zK,zM,zJ,splice,zI,zH,and_self,zB,zD,zC,reduceIte,reduceCtorEq,zA]
  cases hp:possS (zAj s [(k:Int)])
  ·rw [hp,if_neg (by decide)] at hks
   simp only [go_sem,k4,zB,zD,zC,reduceIte,reduceCtorEq,zA]
   exact zAh (s.sights.length - (k+1)) (by omega) ⟨k+1,W,nt,tk,_,hkl,rfl,rfl,rfl,by rw [hks];exact ho⟩
  ·rw [hp,if_pos rfl] at hks
   simp only [go_sem,zAa,zB,zD,zC,reduceIte,reduceCtorEq,zA]
   refine zDl (lx:=[.int .i64 k]) rowInts ho (by simp) rfl (by decide) rfl (by omega) fun W' tk' g => ?_
   simp only [go_sem,k4,zB,zD,zC,reduceIte,reduceCtorEq,zA]
   refine zAh (s.sights.length - (k+1)) (by omega) ⟨k+1,W',nt+1,tk',_,hkl,rfl,rfl,rfl, ?_⟩
   have:=g.own
   rw [show [AV.int .i64 (k:Int)]=ints [(k:Int)] from rfl,zEb] at this
   rw [hks,zW,List.length_singleton]
   exact this
 ·have k1:¬ (k:Int)<s.sights.length:=by omega
  have ek:k=s.sights.length:=by omega
  subst ek
  simp only [go_sem,l53_0,zAa,k1,decide_false,Tryz.f53,zB,zD,zC,reduceIte,reduceCtorEq,zA]
  exact ⟨_,rfl,ho.frz _⟩
end Go.Av.Lx
end
section
set_option maxHeartbeats 2000000
namespace Go.Av.Lx
open Go Go.Av Go.Av.Tb Go.Av.Fx Go.Proofs
open Go.Lv (Sight Survey Sw Sv SightOk keepS zAj dropsS blamesS possS searchM shortM firstI dropM)
open Go.Fw (Sq ent Bd Mat)
theorem app_int0 (S:St) (tx:Tail):appendA T S 32 .nilS (.slice [] 0 tx)=some (.pure .nilS):=rfl
theorem own_sq0i {l:List Int} (hl:l.length≤100) {b:St} {tx:Tail} {nt:Nat} {toks:List Nat} {H:List (Option Blk)} {K:AV→St→Prop} {hK:Hold K}
  (next:∀ V' nt' toks',nt≤nt'→Own (ints l) l.length V' nt' toks'→K V' ⟨H,nt',toks'⟩):sq K hK (appendA T b 32 .nilS (.slice (ints l) l.length tx)) ⟨H,nt,toks⟩:=by
 rcases Nat.eq_zero_or_pos l.length with h | h
 ·have e:l=[]:=List.length_eq_zero_iff.1 h
  subst e
  rw [show ints []=[] from rfl,qK,app_int0,sq_pure]
  exact next _ _ _ (zN _) (Own.nil _ _)
 ·refine own_sq (l:=[]) (n:=0) rowInts (Own.nil _ _) rfl (by simp) (by omega) (ints_one l) (by omega) fun V' toks' g => ?_
  have:=g.own
  rw [qN,Nat.zero_add] at this
  exact next _ _ _ (by omega) this
def ldropA (p:List Int→Bool) (below m:Nat) (now:List Int) (fr:Nat):AV:=match m with
 | 0=>.tuple [sl now,.bool (p now)]
 | m+1=>match dropM p below (m+1) now fr with
  | some r=>.tuple [sl r,.bool true]
  | none=>.tuple [sl [],.bool false]
theorem ldropA_bnd (p:List Int→Bool) (below m:Nat) (now:List Int) (fr:Nat):(ldropA p below m now fr).bnd 0 0=true:=by
 unfold ldropA
 split
 ·simp [bndL,AV.bnd]
 ·split <;> simp [bndL,AV.bnd]
theorem ldropA_is (p:List Int→Bool) (below m:Nat) (now:List Int) (fr:Nat):∃ x:List Int,ldropA p below m now fr=.tuple [sl x,.bool (dropM p below m now fr).isSome] ∧ ∀ r,dropM p below m now fr=some r→x=r:=by
 unfold ldropA
 cases m with
 | zero =>
  refine ⟨now, ?_,fun r hr => ?_⟩
  ·unfold dropM
   cases p now <;> rfl
  ·unfold dropM at hr
   split at hr
   ·cases hr;rfl
   ·cases hr
 | succ m =>
  cases hd:dropM p below (m+1) now fr with
  | some r=>exact ⟨r,by simp only [hd];rfl,fun r' h=>by cases h;rfl⟩
  | none=>exact ⟨[],by simp only [hd];rfl,fun r' h=>by cases h⟩
theorem ldrop_loop (s:Survey) (hm:s.sights.length≤14) (many:Nat) (now:List Int) (hn:now.length≤50) (fr m:Nat) (p:List Int→Bool) (hf:fr≤1000)
  (ih:∀ n:Nat,n<s.sights.length→PC Tryz.prog 121 [surA s,sl (now ++ [(n:Int)]),.int .i64 many] (.pure (ldropA p s.sights.length m (now ++ [(n:Int)]) (n+1)))) (Q:AQ)
  (hret:∀ r nt toks,firstI (fun n:Nat=>dropM p s.sights.length m (now ++ [(n:Int)]) (n+1)) fr (s.sights.length - fr)=some r→Q .ret [(6,sl r),(7,.bool true)] ⟨[some (.cells (surC s))],nt,toks⟩)
  (hend:firstI (fun n:Nat=>dropM p s.sights.length m (now ++ [(n:Int)]) (n+1)) fr (s.sights.length - fr)=none → ∀ (k:Int) nt toks,Q .normal [(1,sl now),(2,.int .i64 many),(3,.ref 0 0),(11,.int .i64 k),(42,.bool false)] ⟨[some (.cells (surC s))],nt,toks⟩) :
  WC (E 58) (.loop l121_0) (blockQ 0 Q) [(1,sl now),(2,.int .i64 many),(3,.ref 0 0),(11,.int .i64 fr)] ⟨[some (.cells (surC s))],0,[]⟩:=by
 generalize hF:(fun n:Nat=>dropM p s.sights.length m (now ++ [(n:Int)]) (n+1))=F at hret hend
 refine zAt (fun q ts' S' => ∃ k nt tk,k≤s.sights.length - fr∧q=s.sights.length - fr - k∧firstI F fr (s.sights.length - fr)=firstI F (fr+k) (s.sights.length - fr - k)∧ts'=[(1,sl now),(2,.int .i64 many),(3,.ref 0 0),(11,.int .i64 (fr+k:Nat))]∧S'=⟨[some (.cells (surC s))],nt,tk⟩) (s.sights.length - fr) ⟨0,0,[],qG _,rfl,rfl,rfl,rfl⟩ ?_
 rintro q ts' S' ⟨k,nt,tk,hk,rfl,hP,rfl,rfl⟩
 by_cases h:fr+k<s.sights.length
 ·have h1:((fr+k:Nat):Int)<s.sights.length:=by omega
  have h4:IntKind.i64.wrap (((fr+k:Nat):Int)+1)=(fr+(k+1):Nat):=wrap64 (by omega)
  obtain ⟨q,hq⟩:∃ q,s.sights.length - fr - k=q+1:=⟨s.sights.length - fr - k - 1,by omega⟩
  rw [hq,zBe] at hP
  obtain ⟨x,ex,hx⟩:=ldropA_is p s.sights.length m (now ++ [((fr+k:Nat):Int)]) (fr+k+1)
  have hC:=ih (fr+k) h
  rw [ex] at hC
  have eF:F (fr+k)=dropM p s.sights.length m (now ++ [((fr+k:Nat):Int)]) (fr+k+1):=by rw [← hF]
  rw [← eF] at hC hx
  simp only [go_sem,l121_0,zAa,h1,decide_true,zB,zD,zC,reduceIte,reduceCtorEq,zA]
  refine own_sq0i (by omega) fun V1 nt1 tk1 _ o1 => ?_
  simp only [go_sem,zAa,zB,zD,zC,reduceIte,reduceCtorEq,zA]
  refine own_sq (lx:=[.int .i64 (fr+k:Nat)]) rowInts o1 (by simp) rfl (by decide) rfl (by omega) fun V2 tk2 g => ?_
  have go:=g.own
  rw [show [AV.int .i64 ((fr+k:Nat):Int)]=ints [((fr+k:Nat):Int)] from rfl,zEb] at go
  have hl2:(now ++ [((fr+k:Nat):Int)]).length=now.length+1:=by simp
  rw [← hl2] at go
  simp only [go_sem,zB,zD,zC,reduceIte,reduceCtorEq,zA]
  refine qp n121 hC (SubL.cons (Sub.refl _) (SubL.cons go.sub (SubL.cons (Sub.refl _) (SubL.refl [])))) ?_
  cases hr:F (fr+k) with
  | none =>
   rw [hr] at hP
   simp only [go_sem,zAc,Option.isSome_none,h4,zB,zD,zC,reduceIte,reduceCtorEq,zA]
   exact zAh (s.sights.length - fr - (k+1)) (by omega) ⟨k+1,nt1+1,tk2,by omega,rfl,by rw [hP,show fr+k+1=fr+(k+1) by omega,show s.sights.length - fr - (k+1)=q by omega],rfl,rfl⟩
  | some r =>
   rw [hr] at hP
   rw [hx r hr]
   simp only [go_sem,zAc,Option.isSome_some,zB,zD,zC,reduceIte,reduceCtorEq,zA]
   exact hret r _ _ hP
 ·have h1:¬ ((fr+k:Nat):Int)<s.sights.length:=by omega
  rw [show s.sights.length - fr - k=0 by omega] at hP
  simp only [go_sem,l121_0,zAa,h1,decide_false,zB,zD,zC,reduceIte,reduceCtorEq,zA]
  exact hend hP _ _ _
def AfterL (now:List Int) (fr:Nat):Prop:=(now.length=0∧fr=0) ∨ ∃ k,now.length=k+1∧now[k]? = some ((fr:Int) - 1)
theorem ldropped_pc (s:Survey) (hv:Sv s) (many:Nat) (hm:many≤50):∀ (m:Nat) (now:List Int) (fr:Nat),now.length+m=many→AfterL now fr→fr≤100 →
  PC Tryz.prog 121 [surA s,sl now,.int .i64 many] (.pure (ldropA (fun w=>possS (zAj s w)) s.sights.length m now fr))
 | 0,now,fr,hl,ha,hf=>by
  have hc:=hv.many
  refine PC.of_empty (AC.run (E_ok _) mix Tryz.func121 m121 rfl rfl rfl (zE rfl) ?_) (by simp [bndL,AV.bnd]) (ldropA_bnd _ _ _ _ _)
  have h1:(now.length:Int)=many:=by omega
  have hsw:=Lv.without_sv hv now
  have hkp:=rKnown_pc (zAj s now) hsw.toSw (by have:=hsw.many;omega)
  obtain ⟨a,b,e,oa,ob⟩:=rknown_is (zAj s now)
  rw [e] at hkp
  have hcl:AV.cells (.agg [a,b])=[a,b]:=rfl
  simp only [go_sem,boxA,zAa,h1,decide_true,zB,zD,zC,reduceIte,reduceCtorEq,zA]
  refine cp n54 (rWithout_pc s (by omega) now (by show now.length<9223372036854775807;omega)) (SubL.refl _) ?_
  simp only [go_sem,zB,zD,zC,reduceIte,reduceCtorEq,zA]
  refine cp n65 hkp (SubL.refl _) ?_
  simp only [go_sem,zAc,zAd,hcl,oa,ob,zK,zM,zJ,splice,zI,zH,and_self,Tryz.f121,zB,zD,zC,reduceIte,reduceCtorEq,zA]
  all_goals rfl
 | m+1,now,fr,hl,ha,hf=>by
  have hc:=hv.many
  refine PC.of_frz (AC.run (E_ok _) mix Tryz.func121 m121 rfl rfl rfl (zE rfl) ?_) (by simp [bndL,AV.bnd]) (ldropA_bnd _ _ _ _ _)
  have h1:¬ ((now.length:Int)=many):=by omega
  have ih:∀ n:Nat,n<s.sights.length→PC Tryz.prog 121 [surA s,sl (now ++ [(n:Int)]),.int .i64 many] (.pure (ldropA (fun w=>possS (zAj s w)) s.sights.length m (now ++ [(n:Int)]) (n+1))):=fun n hn =>
   ldropped_pc s hv many hm m (now ++ [(n:Int)]) (n+1) (by simp;omega) (.inr ⟨now.length,by simp,by
    rw [zR (zN _),yT]
    show some (n:Int)=_
    rw [show (((n+1:Nat):Int) - 1)=n by omega]⟩) (by omega)
  have hA:ldropA (fun w=>possS (zAj s w)) s.sights.length (m+1) now fr=match firstI (fun n:Nat=>dropM (fun w=>possS (zAj s w)) s.sights.length m (now ++ [(n:Int)]) (n+1)) fr (s.sights.length - fr) with
   | some r=>.tuple [sl r,.bool true]
   | none=>.tuple [sl [],.bool false]:=rfl
  rw [hA]
  have loop:=ldrop_loop s hc many now (by omega) fr m (fun w=>possS (zAj s w)) (by omega) ih
  rcases ha with ⟨h0,rfl⟩ | ⟨k,hk1,hk2⟩
  ·have z:¬ ((now.length:Int) > 0):=by omega
   simp only [go_sem,boxA,zAa,h1,z,decide_false,zB,zD,zC,reduceIte,reduceCtorEq,zA]
   refine loop _ (fun r nt toks hr => ?_) (fun hr k nt toks => ?_)
   ·rw [hr]
    simp only [go_sem,Tryz.f121,zB,zD,zC,reduceIte,reduceCtorEq,zA]
    exact ⟨_,rfl,.same _⟩
   ·rw [hr]
    simp only [go_sem,Tryz.f121,zB,zD,zC,reduceIte,reduceCtorEq,zA]
    exact ⟨_,rfl,Frz.two .nil (.same _)⟩
  ·have z:(now.length:Int) > 0:=by omega
   have w1:IntKind.i64.wrap ((now.length:Int) - 1)=(k:Nat):=by rw [wrap64 (by omega)];omega
   have w2:0≤(k:Int)∧(k:Int)<now.length:=by omega
   have w3:IntKind.i64.wrap ((fr:Int) - 1+1)=fr:=by rw [wrap64 (by omega)];omega
   simp only [go_sem,boxA,zAa,h1,z,decide_false,decide_true,w1,w2,zAw,hk2,zAg,zX,w3,zB,zD,zC,reduceIte,reduceCtorEq,zA]
   refine loop _ (fun r nt toks hr => ?_) (fun hr k nt toks => ?_)
   ·rw [hr]
    simp only [go_sem,Tryz.f121,zB,zD,zC,reduceIte,reduceCtorEq,zA]
    exact ⟨_,rfl,.same _⟩
   ·rw [hr]
    simp only [go_sem,Tryz.f121,zB,zD,zC,reduceIte,reduceCtorEq,zA]
    exact ⟨_,rfl,Frz.two .nil (.same _)⟩
theorem ldropA0 (p:List Int→Bool) (below m:Nat):ldropA p below m [] 0=.tuple [sl ((searchM p below m [] 0).getD []),.bool (searchM p below m [] 0).isSome]:=by
 rw [← Lv.drop_search]
 unfold ldropA
 cases m with
 | zero =>
  unfold dropM
  cases p [] <;> rfl
 | succ m =>
  cases hd:dropM p below (m+1) [] 0 with
  | some r=>simp only [hd];rfl
  | none=>simp only [hd];rfl
theorem rDrops_pc (s:Survey) (hv:Sv s):PC Tryz.prog 52 [surA s] (.pure (sl (dropsS s))):=by
 have hc:=hv.many
 refine PC.of_empty (AC.run (E_ok _) mix Tryz.func52 m52 rfl rfl rfl (zE rfl) ?_) (by simp [bndL,AV.bnd]) (by simp [AV.bnd])
 have hD:∀ m:Nat,m≤50→PC Tryz.prog 121 [surA s,sl [],.int .i64 m] (.pure (.tuple [sl ((searchM (fun w=>possS (zAj s w)) s.sights.length m [] 0).getD []),.bool (searchM (fun w=>possS (zAj s w)) s.sights.length m [] 0).isSome])):=fun m hm=>by
  rw [← ldropA0]
  exact ldropped_pc s hv m hm m [] 0 (by simp) (.inl ⟨rfl,rfl⟩) (by omega)
 have hW:=Lv.drops_is hv.toSw
 unfold shortM at hW
 generalize hG:(fun m:Nat=>searchM (fun w=>possS (zAj s w)) s.sights.length m [] 0)=G at hW
 have hD':∀ m:Nat,m≤50→PC Tryz.prog 121 [surA s,sl [],.int .i64 m] (.pure (.tuple [sl ((G m).getD []),.bool (G m).isSome])):=fun m hm=>by rw [← hG];exact hD m hm
 clear hD hG
 generalize dropsS s=W at hW ⊢
 simp only [go_sem,boxA,zB,zD,zC,reduceIte,reduceCtorEq,zA]
 refine zBk s.sights.length (fun k=>firstI G k (s.sights.length+1 - k)=some W) (fun k=>[(1,.ref 0 0),(3,.int .i64 k)]) (fun _=>⟨[some (.cells (surC s))],0,[]⟩) hW rfl rfl ?_
 clear hW
 intro k hk hP I hI
 by_cases g:k<s.sights.length
 ·have h1:(k:Int)<s.sights.length:=by omega
  have h4:IntKind.i64.wrap ((k:Int)+1)=(k+1:Nat):=wrap64 (by omega)
  have hI:=hI g
  rw [show s.sights.length+1 - k=(s.sights.length - k)+1 by omega,zBe] at hP
  have hC:=hD' k (by omega)
  simp only [go_sem,l52_0,zAa,h1,decide_true,zB,zD,zC,reduceIte,reduceCtorEq,zA]
  refine cp n121 hC (SubL.cons (Sub.refl _) (SubL.cons Sub.nil (SubL.cons (Sub.refl _) (SubL.refl [])))) ?_
  cases hr:G k with
  | none =>
   rw [hr] at hP
   simp only [go_sem,zAc,Option.isSome_none,h4,zB,zD,zC,reduceIte,reduceCtorEq,zA]
   exact hI (by rw [show s.sights.length+1 - (k+1)=s.sights.length - k by omega];exact hP)
  | some r =>
   rw [hr] at hP
   cases hP
   have hg:(some W:Option (List Int)).getD []=W:=rfl
   simp only [go_sem,zAc,Option.isSome_some,hg,Tryz.f52,zB,zD,zC,reduceIte,reduceCtorEq,zA]
 ·have h1:¬ (k:Int)<s.sights.length:=by omega
  have ek:k=s.sights.length:=by omega
  subst ek
  rw [show s.sights.length+1 - s.sights.length=0+1 by omega,zBe] at hP
  simp only [go_sem,l52_0,zAa,h1,decide_false,zB,zD,zC,reduceIte,reduceCtorEq,zA]
  refine cp n121 (hD' _ (by omega)) (SubL.cons (Sub.refl _) (SubL.cons Sub.nil (SubL.cons (Sub.refl _) (SubL.refl [])))) ?_
  simp only [go_sem,zAc,Tryz.f52,zB,zD,zC,reduceIte,reduceCtorEq,zA]
  cases hr:G s.sights.length with
  | none=>rw [hr] at hP;cases hP
  | some r=>rw [hr] at hP;cases hP;rfl
end Go.Av.Lx
end
