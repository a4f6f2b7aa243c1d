/- Part 23 of the proof. -/
import Derived.Test.YtclmbbofpaecaaaGreatDoorVo22
import Derived.Test.YtclmbbofpaecaaaGreatDoorVo19
import Derived.Test.YtclmbbofpaecaaaGreatDoorVo14
set_option linter.all false
set_option linter.unusedVariables false
set_option linter.unusedSimpArgs false
set_option linter.unusedSectionVars false
open Bool renaming and_self → zK, and_eq_true → zS, not_true → zV, not_false → qB, false_and → qF, not_eq_true' → qV, true_and → yB
open Int renaming toNat_natCast → qP
open List renaming getElem?_eq_getElem → zF, getD_eq_getElem?_getD → zG, set_cons_succ → zH, set_cons_zero → zI, all_cons → zL, mem_cons_self → zO, all_nil → zP, mem_cons_of_mem → zQ, getElem_mem → zW, length_append → qD, take_succ_eq_append_getElem → qH, length_nil → qK, append_assoc → qN, map_append → qS, nil_append → qX, cons_append → yG, take_length → yH, length_take → yM, range_succ → yO
open Nat renaming reduceLeDiff → zA, reduceEqDiff → zB, reduceAdd → zC, reduceBEq → zD, le_of_ble_eq_true → zE, le_refl → zN, zero_le → qG, not_lt_zero → qO
section
set_option maxHeartbeats 2000000
namespace Go.Av.Lx
open Go Go.Av Go.Av.Tb Go.Av.Fx Go.Proofs
open Go.Lv (Sight Survey Sw Sv SightOk Try TryOk worstW bestAt)
open Go.Fw (Sq ent Bd Mat)
def tryD:Try:=⟨0,0,0⟩
theorem try_getD {l:List Try} {k:Nat} (h:k<l.length):l.getD k tryD=l[k]:=by rw [zG,zF h];rfl
def triesB (s:Survey) (l:List Try):Bool:=inB l.length 1 4 && !l.any (badTry s)
def tryW (V:Mat) (l:List Try) (i j:Nat) (k:Nat):Int:=worstW V (l.getD k tryD) i j
def takesA (s:Survey) (i j:Int) (l:List Try):AV:=betwA s i j (triesB s l) [.int .i64 0,.int .i64 0] fun V=>[.int .i64 (bestAt (tryW V l i.toNat j.toNat) (l.length - 1):Nat),.int .i64 (tryW V l i.toNat j.toNat (bestAt (tryW V l i.toNat j.toNat) (l.length - 1)))]
theorem Takes_pc (s:Survey) (hl:okL s.sights.length) (i j:Int) (l:List Try) (hll:okL l.length):PC Tryz.prog 47 [surA s,.int .i64 i,.int .i64 j,triesA l] (.pure (takesA s i j l)):=by
 refine PC.of_empty (AC.run (E_ok _) mix Tryz.func47 m47 rfl rfl rfl (zE rfl) ?_) (by simp [bndL,AV.bnd]) (zEz rfl fun _=>rfl)
 unfold takesA
 obtain ⟨fine,hfine⟩:∃ fine,triesB s l=fine:=⟨_,rfl⟩
 have key:∀ Q:AQ,Q .normal [(1,.int .i64 i),(2,.int .i64 j),(3,triesA l),(4,.ref 0 0),(11,.bool fine)] ⟨[some (.cells (surC s))],0,[]⟩→WC (E 64) (.region [1,2,3,4,11] r47_1) Q [(1,.int .i64 i),(2,.int .i64 j),(3,triesA l),(4,.ref 0 0)] ⟨[some (.cells (surC s))],0,[]⟩:=by
  intro Q hQ
  unfold triesB at hfine
  simp only [go_sem,zAa,zB,zD,zC,reduceIte,reduceCtorEq,zA]
  refine cp n100 (in_pc _ _ _) (SubL.refl _) ?_
  rw [show (decide ((l.length:Int) ≥ 1) && decide ((l.length:Int)≤4))=inB l.length 1 4 from rfl]
  cases h1:inB l.length 1 4
  ·rw [h1,qF] at hfine
   rw [← hfine] at hQ
   simp only [go_sem,zB,zD,zC,reduceIte,reduceCtorEq,zA]
   exact hQ
  rw [h1,yB] at hfine
  have hC:=containsFuncT_pc l hll 114 n114 [.eptr (surC s) 0] (by simp [bndL,AV.bnd]) (badTry s) (fun x _=>takes1_pc s x)
  simp only [go_sem,zB,zD,zC,reduceIte,reduceCtorEq,zA]
  refine cl n113 hC (LntL.cons (.same _ (by simp [AV.bnd])) (LntL.cons (Lnt.func1 (.ptr 0 0 _ rfl (by simp [bndL,AV.bnd]))) (LntL.nil _))) rfl ?_
  simp only [go_sem,zAg,hfine,zB,zD,zC,reduceIte,reduceCtorEq,zA]
  exact hQ
 obtain ⟨C,hC⟩:∃ C,MC.region [1,2,3,4,11] r47_1=C:=⟨_,rfl⟩
 unfold c47
 rw [hC]
 simp only [go_sem,boxA,zB,zD,zC,reduceIte,reduceCtorEq,zA]
 subst hC
 refine key _ ?_
 simp only [go_sem,zB,zD,zC,reduceIte,reduceCtorEq,zA]
 refine cp n84 (zCm s hl i j fine) (SubL.refl _) ?_
 rcases zDj s i j fine [.int .i64 0,.int .i64 0] (fun V=>[.int .i64 (bestAt (tryW V l i.toNat j.toNat) (l.length - 1):Nat),.int .i64 (tryW V l i.toNat j.toNat (bestAt (tryW V l i.toNat j.toNat) (l.length - 1)))]) with ⟨k,hk,_,e1,e2⟩ | ⟨V,hv,hf,hV,hj,e1,e2⟩
 ·rw [e1,hfine,e2]
  simp only [go_sem,zAc,hk,zAd,AV.cells,AV.one,zL,zP,zK,splice,zI,zH,and_self,Tryz.f47,zB,zD,zC,reduceIte,reduceCtorEq,zA]
  all_goals rfl
 rw [e1,hfine,e2]
 rw [hf] at hfine
 unfold triesB at hfine
 rw [zS,qV] at hfine
 obtain ⟨hin,hbad⟩:=hfine
 have hlen:1≤l.length∧l.length≤4:=by have:=inB_iff.1 hin;omega
 have htry:∀ x∈l,TryOk s.stations x:=fun x hx=>(try_iff hv.st).1 (by
  have:=List.any_eq_false.1 hbad x hx
  simpa using this)
 have hst:s.stations=(Lv.num s:Int):=by have:=hv.st;show _=((s.stations.toNat:Nat):Int);omega
 have hi:=hj.hi;have hjj:=hj.hj;have he:=hj.e1
 have ef:far=1099511627776:=rfl
 obtain ⟨a,rfl⟩:∃ a:Nat,i=a:=⟨i.toNat,by omega⟩
 obtain ⟨b,rfl⟩:∃ b:Nat,j=b:=⟨j.toNat,by omega⟩
 simp only [qP] at he ⊢
 have ha:a<Lv.num s:=by omega
 have hb:b<Lv.num s:=by omega
 have hlt:ent V a b<far:=by omega
 clear e1 e2 key
 simp only [go_sem,zAc,kvC,zAa,zAd,AV.cells,AV.one,zL,zP,zK,splice,zI,zH,and_self,zB,zD,zC,reduceIte,reduceCtorEq,zA]
 refine zAu (fun m ts' S' => ∃ k W nt tk X,k≤l.length∧m=l.length - k∧ts'=[(1,.int .i64 a),(2,.int .i64 b),(12,.ref 1 0),(14,W),(39,triesA l),(40,.int .i64 l.length),(41,.int .i64 (k:Nat))]∧S'=⟨[some (.cells (surC s)),some (.cells (kvC s (wS V)))] ++ X,nt,tk⟩∧Own (chos (tryW V l a b) k) k W nt tk) l.length ⟨0,.nilS,0,[],[],qG _,rfl,rfl,rfl,Own.nil _ _⟩ ?_
 rintro m ts' S' ⟨k,W,nt,tk,X,hk,rfl,rfl,rfl,ho⟩
 have c1:=fun q=>zAf X q
 have c2:=fun x B=>zAs X x B
 by_cases hkl:k<l.length
 ·have k1:(k:Int)<l.length:=by omega
  have k2:0≤(k:Int)∧(k:Int)<l.length:=by omega
  have k3:k * 3+3≤(triesC l).length:=by rw [triesC_len];omega
  have k4:IntKind.i64.wrap ((k:Int)+1)=(k+1:Nat):=wrap64 (by omega)
  have k5:=tries_at l k hkl
  have hx:=htry _ (zW hkl)
  have hw:worstW V l[k] a b=tryW V l a b k:=by unfold tryW;rw [try_getD hkl]
  have hwp:=tryWorst_pc s hv.toSw hV l[k] hx ha hb hlt
  rw [hw] at hwp
  generalize l[k]=x at *
  simp only [go_sem,l47_0,k1,decide_true,k2,k3,k5,zAh,and_self,c1,c2,zAd,AV.cells,AV.one,zL,zP,zK,splice,zI,zH,kvC,zB,zD,zC,reduceIte,reduceCtorEq,zA]
  refine cp n116 hwp (SubL.refl _) ?_
  simp only [go_sem,zAa,zB,zD,zC,reduceIte,reduceCtorEq,zA]
  refine zEh (lx:=[.int .i64 k,.int .i64 (tryW V l a b k)]) rowChoices ho (chos_len _ _) rfl (by decide) rfl (by omega) fun W' tk' g => ?_
  simp only [go_sem,k4,zB,zD,zC,reduceIte,reduceCtorEq,zA]
  refine zAj (l.length - (k+1)) (by omega) ⟨k+1,W',nt+1,tk',_,hkl,rfl,rfl,rfl, ?_⟩
  have:=g.own
  rw [chos_succ] at this
  exact this
 ·have k1:¬ (k:Int)<l.length:=by omega
  have ek:k=l.length:=by omega
  subst ek
  simp only [go_sem,l47_0,k1,decide_false,zB,zD,zC,reduceIte,reduceCtorEq,zA]
  refine cp n111 (best_pc (tryW V l a b) l.length (by omega) (by omega)) (SubL.cons ho.sub (SubL.refl _)) ?_
  simp only [go_sem,c1,c2,zAd,AV.cells,AV.one,zL,zP,zK,splice,zI,zH,and_self,Tryz.f47,zB,zD,zC,reduceIte,reduceCtorEq,zA]
  all_goals rfl
end Go.Av.Lx
end
section
set_option maxHeartbeats 2000000
namespace Go.Av.Lx
open Go Go.Av Go.Av.Tb Go.Av.Fx Go.Proofs
open Go.Lv (Sight Survey Sw Sv SightOk Try TryOk worstW bestAt withS tried riseAt widthAt)
open Go.Fw (Sq ent Bd Mat)
theorem app_sgt0 (S:St) (tx:Tail):appendA T S 22 .nilS (.slice [] 0 tx)=some (.pure .nilS):=rfl
theorem sgts_one (l:List Sight):(sgts l).all AV.one=true:=cat_one (f:=sgtC) (fun _=>rfl) l
theorem sgts_snoc (l:List Sight) (x:Sight):sgts l ++ sgtC x=sgts (l ++ [x]):=cat_snoc (f:=sgtC) l x
theorem own_sq0s {l:List Sight} (hl:l.length≤100) {b:St} {tx:Tail} {nt:Nat} {toks:List Nat} {H:List (Option Blk)} {K:AV→St→Prop} {hK:Hold K}
  (next:∀ V' nt' toks',nt≤nt'→Own (sgts l) l.length V' nt' toks'→K V' ⟨H,nt',toks'⟩):sq K hK (appendA T b 22 .nilS (.slice (sgts l) l.length tx)) ⟨H,nt,toks⟩:=by
 rcases Nat.eq_zero_or_pos l.length with h | h
 ·have e:l=[]:=List.length_eq_zero_iff.1 h
  subst e
  rw [show sgts []=[] from rfl,qK,app_sgt0,sq_pure]
  exact next _ _ _ (zN _) (Own.nil _ _)
 ·refine own_sq (l:=[]) (n:=0) zEx (Own.nil _ _) rfl (by rw [zBg];omega) (by omega) (sgts_one l) (by omega) fun V' toks' g => ?_
  have:=g.own
  rw [qX,Nat.zero_add] at this
  exact next _ _ _ (by omega) this
@[go_sem] theorem bs_sgt (a b c d:Int):zAe T 22 1 [(0,.agg [.int .i64 a,.int .i64 b,.int .i64 c,.int .i64 d])]=some (.slice [.int .i64 a,.int .i64 b,.int .i64 c,.int .i64 d] 1 .exact):=rfl
theorem zFd {h:List (Option Blk)} {a b a' b':AV} (h1:Frz h a a') (h2:Frz h b b'):Frz h (.agg [a,b]) (.agg [a',b']):=
 .agg _ _ rfl fun j x y hx hy=>by
  match j,hx,hy with
  | 0,hx,hy=>simp at hx hy;subst hx;subst hy;exact h1
  | 1,hx,hy=>simp at hx hy;subst hx;subst hy;exact h2
  | j+2,hx,hy=>simp at hx
theorem With_pc (s:Survey) (hl:s.sights.length≤100) (y:Sight):PC Tryz.prog 55 [surA s,.agg (sgtC y)] (.pure (surA (withS s y))):=by
 refine PC.of_frz (AC.run (E_ok _) mix Tryz.func55 m55 rfl rfl rfl (zE rfl) ?_) (by simp [bndL,AV.bnd]) (by simp [bndL,AV.bnd])
 simp only [go_sem,boxA,zAd,AV.cells,AV.one,zL,zP,zK,splice,zI,zH,and_self,zAa,zB,zD,zC,reduceIte,reduceCtorEq,zA]
 refine own_sq0s hl fun V1 nt1 tk1 _ o1 => ?_
 simp only [go_sem,zAa,zB,zD,zC,reduceIte,reduceCtorEq,zA]
 refine zEh (lx:=sgtC y) zEx o1 (by rw [zBg];omega) rfl (by decide) rfl (by omega) fun V2 tk2 g => ?_
 obtain ⟨q1,q2⟩:=g.own.cells
 have go:=g.own
 rw [sgts_snoc] at go
 simp only [go_sem,q1,q2,zAd,zL,zP,zK,splice,zI,zH,and_self,zB,zD,zC,reduceIte,reduceCtorEq,zA]
 simp only [go_sem,zAd,AV.cells,q2,AV.one,zL,zP,zK,splice,zI,zH,and_self,Tryz.f55,zB,zD,zC,reduceIte,reduceCtorEq,zA]
 refine ⟨_,rfl,zFd (.same _) ?_⟩
 rw [show (withS s y).sights=s.sights ++ [y] from rfl,qD,List.length_singleton]
 exact go.frz _
end Go.Av.Lx
end
section
set_option maxHeartbeats 2000000
namespace Go.Av.Lx
open Go Go.Av Go.Av.Tb Go.Av.Fx Go.Proofs
open Go.Lv (Sight Survey Sw Sv SightOk Try TryOk worstW bestAt withS tried riseAt widthAt withL)
open Go.Fw (Sq ent Bd Mat)

end Go.Av.Lx
end
section
set_option maxHeartbeats 2000000
namespace Go.Av.Lx
open Go Go.Av Go.Av.Tb Go.Av.Fx Go.Proofs
open Go.Lv (Sight Survey Sw Sv SightOk keepS zAq blamesS dropsS possS)
open Go.Fw (Sq ent Bd Mat)
theorem without_pc (s:Survey) (hl:s.sights.length≤100) (w:List Int) (hw:okL w.length):PC Tryz.prog 119 [surA s,sl w] (.pure (surA (zAq s w))):=by
 refine PC.of_frz (AC.run (E_ok _) mix Tryz.func119 m119 rfl rfl rfl (zE rfl) ?_) (by simp [bndL,AV.bnd]) (by simp [bndL,AV.bnd])
 have bd24:∀ a,buildA T 24 [(0,.int .i64 a)]=some (.agg [.int .i64 a,.nilS]):=fun a=>rfl
 simp only [go_sem,boxA,zAa,bd24,zAd,AV.cells,AV.one,zL,zP,zK,splice,zI,zH,and_self,zB,zD,zC,reduceIte,reduceCtorEq,zA]
 refine zAu (fun m ts' S' => ∃ k W nt tk X,k≤s.sights.length∧m=s.sights.length - k∧ts'=[(1,sl w),(4,.ref 1 0),(5,.ref 2 0),(12,.slice (sgts s.sights) s.sights.length .unk),(13,.int .i64 s.sights.length),(14,.int .i64 (k:Nat))]∧S'=⟨[some (.cells (surC s)),some (.cells [.int .i64 0,.nilS]),some (.cells [.int .i64 s.stations,W])] ++ X,nt,tk⟩∧Own (sgts (keepS s w k)) (keepS s w k).length W nt tk) s.sights.length ⟨0,.nilS,0,[],[],qG _,rfl,rfl,rfl,Own.nil _ _⟩ ?_
 rintro m ts' S' ⟨k,W,nt,tk,X,hk,rfl,rfl,rfl,ho⟩
 have c1:=fun q=>zAf X q
 have c2:=fun x B=>zAs X x B
 by_cases hkl:k<s.sights.length
 ·have k1:(k:Int)<s.sights.length:=by omega
  have k2:0≤(k:Int)∧(k:Int)<s.sights.length:=by omega
  have k3:k * 4+4≤(sgts s.sights).length:=by rw [zBg];omega
  have k4:IntKind.i64.wrap ((k:Int)+1)=(k+1:Nat):=wrap64 (by omega)
  have k5:=zCp s.sights k hkl
  have hks:=Lv.keep_succ s w k
  have hg:s.sights.getD k Lv.sightZ=s.sights[k]:=by rw [zG,zF hkl];rfl
  have hkl2:=Lv.keep_len s w k
  rw [hg] at hks
  generalize s.sights[k]=x at *
  simp only [go_sem,l119_0,k1,decide_true,k2,k3,k5,zAh,and_self,c1,c2,zAd,AV.cells,AV.one,zL,zP,zK,splice,zI,zH,zB,zD,zC,reduceIte,reduceCtorEq,zA]
  refine cp n160 (contains_pc w hw k) (SubL.refl _) ?_
  cases hc:w.contains (k:Int)
  ·rw [hc,if_neg (by decide)] at hks
   simp only [go_sem,zAg,qB,c1,zAa,zB,zD,zC,reduceIte,reduceCtorEq,zA]
   refine zEh (lx:=sgtC x) zEx ho (by rw [zBg];omega) rfl (by decide) rfl (by omega) fun W' tk' g => ?_
   obtain ⟨q1,q2⟩:=g.own.cells
   simp only [go_sem,q1,q2,zAd,zL,zP,zK,splice,zI,zH,and_self,k4,zB,zD,zC,reduceIte,reduceCtorEq,zA]
   refine zAj (s.sights.length - (k+1)) (by omega) ⟨k+1,W',nt+1,tk',_,hkl,rfl,rfl,rfl, ?_⟩
   have:=g.own
   rw [sgts_snoc] at this
   rw [hks,qD,List.length_singleton]
   exact this
  ·rw [hc,if_pos rfl] at hks
   simp only [go_sem,zAg,zV,k4,zB,zD,zC,reduceIte,reduceCtorEq,zA]
   exact zAj (s.sights.length - (k+1)) (by omega) ⟨k+1,W,nt,tk,_,hkl,rfl,rfl,rfl,by rw [hks];exact ho⟩
 ·have k1:¬ (k:Int)<s.sights.length:=by omega
  have ek:k=s.sights.length:=by omega
  subst ek
  have hfz:=fun H=>ho.frz H
  rcases ho with ⟨rfl,_,_⟩ | ⟨q,rfl,_,_⟩
  ·simp only [go_sem,l119_0,k1,decide_false,zAd,AV.cells,AV.one,zL,zP,zK,splice,zI,zH,and_self,Tryz.f119,zB,zD,zC,reduceIte,reduceCtorEq,zA]
   exact ⟨_,rfl,zFd (.same _) (hfz _)⟩
  ·simp only [go_sem,l119_0,k1,decide_false,zAd,AV.cells,AV.one,zL,zP,zK,splice,zI,zH,and_self,Tryz.f119,zB,zD,zC,reduceIte,reduceCtorEq,zA]
   exact ⟨_,rfl,zFd (.same _) (hfz _)⟩
def blamesA (s:Survey):AV:=if zAl s=true then .tuple [sl (blamesS s),.int .i64 0] else .tuple [.nilS,.int .i64 2]
theorem blamesA_bnd (s:Survey):(blamesA s).bnd 0 0=true:=by
 unfold blamesA
 split
 ·simp [AV.bnd,bndL]
 ·rfl
def blamesK (s:Survey) (k:Nat):List Int:=((List.range k).filter fun (i:Nat)=>possS (zAq s [(i:Int)])).map fun (i:Nat)=>(i:Int)
theorem blamesK_succ (s:Survey) (k:Nat):blamesK s (k+1)=if possS (zAq s [(k:Int)])=true then blamesK s k ++ [(k:Int)] else blamesK s k:=by
 unfold blamesK
 rw [yO,List.filter_append,qS]
 cases h:possS (zAq s [(k:Int)]) <;> simp [h]
theorem blamesK_len (s:Survey) (k:Nat):(blamesK s k).length≤k:=by
 unfold blamesK;rw [List.length_map];exact Nat.le_trans (List.length_filter_le _ _) (by simp)
theorem Blames_pc (s:Survey) (hl:okL s.sights.length):PC Tryz.prog 51 [surA s] (.pure (blamesA s)):=by
 refine PC.of_frz (AC.run (E_ok _) mix Tryz.func51 m51 rfl rfl rfl (zE rfl) ?_) (by simp [bndL,AV.bnd]) (blamesA_bnd s)
 unfold blamesA
 simp only [go_sem,boxA,zB,zD,zC,reduceIte,reduceCtorEq,zA]
 refine cp n89 (zBe s hl) (SubL.refl _) ?_
 cases hs:zAl s
 ·simp only [go_sem,zAg,qB,Tryz.f51,zB,zD,zC,reduceIte,reduceCtorEq,zA]
  exact ⟨_,rfl,.same _⟩
 have hv:=zBo.1 hs
 have hm:=hv.many
 rw [if_pos rfl]
 simp only [go_sem,zAg,zV,zAa,zB,zD,zC,reduceIte,reduceCtorEq,zA]
 refine zAu (fun m ts' S' => ∃ k W nt tk,k≤s.sights.length∧m=s.sights.length - k∧ts'=[(1,.ref 0 0),(4,W),(11,.int .i64 s.sights.length),(12,.int .i64 (k:Nat))]∧S'=⟨[some (.cells (surC s))],nt,tk⟩∧Own (ints (blamesK s k)) (blamesK s k).length W nt tk) s.sights.length ⟨0,.nilS,0,[],qG _,rfl,rfl,rfl,Own.nil _ _⟩ ?_
 rintro m ts' S' ⟨k,W,nt,tk,hk,rfl,rfl,rfl,ho⟩
 by_cases hkl:k<s.sights.length
 ·have k1:(k:Int)<s.sights.length:=by omega
  have k4:IntKind.i64.wrap ((k:Int)+1)=(k+1:Nat):=wrap64 (by omega)
  have hks:=blamesK_succ s k
  have hbl:=blamesK_len s k
  have hwp:=without_pc s (by omega) [(k:Int)] (by show 1<9223372036854775807;decide)
  have hsw:=Lv.without_sv hv [(k:Int)]
  have hpp:=zDo (zAq s [(k:Int)]) hsw.toSw (by have:=hsw.many;omega)
  simp only [go_sem,l51_0,k1,decide_true,zB,zD,zC,reduceIte,reduceCtorEq,zA]
  refine cp n119 hwp (SubL.cons (Sub.refl _) (SubL.cons (Sub.unk _ 1 .exact) (SubL.refl []))) ?_
  simp only [go_sem,zB,zD,zC,reduceIte,reduceCtorEq,zA]
  refine cp n107 hpp (SubL.refl _) ?_
  cases hp:possS (zAq s [(k:Int)])
  ·rw [hp,if_neg (by decide)] at hks
   simp only [go_sem,k4,zB,zD,zC,reduceIte,reduceCtorEq,zA]
   exact zAj (s.sights.length - (k+1)) (by omega) ⟨k+1,W,nt,tk,hkl,rfl,rfl,rfl,by rw [hks];exact ho⟩
  ·rw [hp,if_pos rfl] at hks
   simp only [go_sem,zAa,zB,zD,zC,reduceIte,reduceCtorEq,zA]
   refine zEh (lx:=[.int .i64 k]) rowInts ho (by simp) rfl (by decide) rfl (by omega) fun W' tk' g => ?_
   simp only [go_sem,k4,zB,zD,zC,reduceIte,reduceCtorEq,zA]
   refine zAj (s.sights.length - (k+1)) (by omega) ⟨k+1,W',nt+1,tk',hkl,rfl,rfl,rfl, ?_⟩
   have:=g.own
   rw [show [AV.int .i64 (k:Int)]=ints [(k:Int)] from rfl,ints_app] at this
   rw [hks,qD,List.length_singleton]
   exact this
 ·have k1:¬ (k:Int)<s.sights.length:=by omega
  have ek:k=s.sights.length:=by omega
  subst ek
  simp only [go_sem,l51_0,k1,decide_false,Tryz.f51,zB,zD,zC,reduceIte,reduceCtorEq,zA]
  exact ⟨_,rfl,Frz.two (ho.frz _) (.same _)⟩
end Go.Av.Lx
end
section
set_option maxHeartbeats 2000000
namespace Go.Av.Lx
open Go Go.Av Go.Av.Tb Go.Av.Fx Go.Proofs
open Go.Lv (Sight Survey Sw Sv SightOk keepS zAq dropsS possS searchM shortM firstI dropM)
open Go.Fw (Sq ent Bd Mat)
abbrev drF:AV:=.func (.func 118) [] [.ref 1 0,.ref 0 0,.ref 2 0]
def DrSt (s:Survey) (out:AV) (S:St):Prop:=∃ ex,S.heap=some (.cells (surC s)) :: some (.cells [out]) :: some (.cells [drF]) :: ex
theorem DrSt.at {s:Survey} {out:AV} {S:St} (h:DrSt s out S):cellsAt S.heap 0=some (surC s)∧cellsAt S.heap 1=some [out]∧cellsAt S.heap 2=some [drF]:=by
 obtain ⟨ex,h⟩:=h
 rw [h]
 exact ⟨rfl,rfl,rfl⟩
theorem DrSt.set {s:Survey} {out:AV} {S:St} (h:DrSt s out S) (v:AV):DrSt s v { S with heap:=setH S.heap 1 (.cells [v]) }:=by
 obtain ⟨ex,h⟩:=h
 refine ⟨ex, ?_⟩
 show setH S.heap _ _=_
 rw [h];rfl
theorem zCa {β:Type} (f:Nat→Option β) (n r:Nat):firstI f n (r+1)=match f n with | some x=>some x | none=>firstI f (n+1) r:=rfl
theorem drops1_ac (s:Survey) (hv:Sv s) :
  ∀ (many:Nat) (now:List Int) (v:AV) (fr:Nat) (S:St) (out:AV),IsL v now→DrSt s out S→now.length+many≤s.sights.length→fr≤1000000 →
   AC Tryz.prog 118 [v,.int .i64 fr,.int .i64 many,.ref 1 0,.ref 0 0,.ref 2 0] S fun e S' =>
    match searchM (fun w=>possS (zAq s w)) s.sights.length many now fr with
    | some r=>e=.ret (.bool true) ∧ ∃ v',IsL v' r∧DrSt s v' S'
    | none=>e=.ret (.bool false) ∧ ∃ v',DrSt s v' S':=by
 have hb:=hv.many
 obtain ⟨below,hbelow⟩:∃ b,b=s.sights.length:=⟨_,rfl⟩
 rw [← hbelow] at hb ⊢
 intro many
 induction many with
 | zero =>
  intro now v fr S out hvl hS hlen hfr
  refine AC.run (Es_ok 39 S) mix Tryz.func118 m118 rfl rfl rfl (zE rfl) ?_
  have hz:decide (((0:Nat):Int)=0)=true:=rfl
  obtain ⟨c0,c1,c2⟩:=hS.at
  have o1:=hvl.one
  have cv:=cells_one o1
  have hS1:=hS.set v
  obtain ⟨d0,d1,d2⟩:=hS1.at
  have hwp:=without_pc s (by omega) now (by show now.length<9223372036854775807;omega)
  have hsw:=Lv.without_sv hv now
  have hpp:=zDo (zAq s now) hsw.toSw (by have:=hsw.many;omega)
  simp only [go_sem,hz,c0,c1,c2,o1,cv,zAd,zL,zP,zK,splice,zI,zH,and_self,d0,d1,d2,zB,zD,zC,reduceIte,reduceCtorEq,zA]
  refine zCf (E:=Es 39 S) n119 hwp (SubL.cons (Sub.refl _) (SubL.cons hvl.sub (SubL.refl []))) ?_
  simp only [go_sem,zB,zD,zC,reduceIte,reduceCtorEq,zA]
  refine zCf (E:=Es 39 S) n107 hpp (SubL.refl _) ?_
  simp only [go_sem,Tryz.f118,zB,zD,zC,reduceIte,reduceCtorEq,zA]
  unfold searchM
  cases hp:possS (zAq s now)
  ·rw [if_neg (by decide)]
   exact ⟨rfl,v,hS1⟩
  ·rw [if_pos rfl]
   exact ⟨rfl,v,hvl,hS1⟩
 | succ many ih =>
  intro now v fr S out hvl hS hlen hfr
  refine AC.run (Es_ok 39 S) mix Tryz.func118 m118 rfl rfl rfl (zE rfl) ?_
  have hz:decide (((many+1:Nat):Int)=0)=false:=by rw [decide_eq_false_iff_not];omega
  obtain ⟨F,hF⟩:∃ F:Nat→Option (List Int),F=fun n:Nat=>searchM (fun w=>possS (zAq s w)) below many (now ++ [(n:Int)]) (n+1):=⟨_,rfl⟩
  have hsm:searchM (fun w=>possS (zAq s w)) below (many+1) now fr=firstI F fr (below+1 - (fr+(many+1))):=by rw [hF];rfl
  rw [hsm]
  simp only [go_sem,hz,zB,zD,zC,reduceIte,reduceCtorEq,zA]
  refine zAu (fun n ts S' => ∃ k out',n=(below+1 - (fr+(many+1))) - k∧k≤below+1 - (fr+(many+1))∧ts=[(0,v),(2,.int .i64 (many+1:Nat)),(4,.ref 0 0),(5,.ref 2 0),(10,.int .i64 (fr+k:Nat))]∧DrSt s out' S' ∧
   firstI F fr (below+1 - (fr+(many+1)))=firstI F (fr+k) ((below+1 - (fr+(many+1))) - k)) (below+1 - (fr+(many+1))) ⟨0,out,rfl,qG _,rfl,hS,rfl⟩ ?_
  rintro n ts S' ⟨k,out',hn,hk,rfl,hS',hres⟩
  obtain ⟨c0,c1,c2⟩:=hS'.at
  have w0:IntKind.i64.wrap (((fr+k:Nat):Int)+((many+1:Nat):Int))=(fr+k+(many+1):Nat):=by rw [wrap64 (by omega)];omega
  by_cases h':fr+k+(many+1)≤below
  ·have h1:((fr+k+(many+1):Nat):Int)≤s.sights.length:=by omega
   obtain ⟨r,hr⟩:∃ r,(below+1 - (fr+(many+1))) - k=r+1:=⟨(below+1 - (fr+(many+1))) - k - 1,by omega⟩
   rw [hr] at hres
   rw [zCa] at hres
   have eF:F (fr+k)=searchM (fun w=>possS (zAq s w)) below many (now ++ [((fr+k:Nat):Int)]) (fr+k+1):=by rw [hF]
   have w1:IntKind.i64.wrap (((fr+k:Nat):Int)+1)=(fr+k+1:Nat):=wrap64 (by omega)
   have w2:IntKind.i64.wrap (((many+1:Nat):Int) - 1)=(many:Nat):=by rw [wrap64 (by omega)];omega
   have ih':=fun v S hvl hS=>ih (now ++ [((fr+k:Nat):Int)]) v (fr+k+1) S out' hvl hS (by simp;omega) (by omega)
   rw [← eF] at ih'
   cases hvl with
   | nil =>
    simp only [go_sem,l118_0,c0,w0,h1,decide_true,zAa,zB,zD,zC,reduceIte,reduceCtorEq,zA]
    simp only [go_sem,c2,zB,zD,zC,reduceIte,reduceCtorEq,zA]
    refine zBn (E:=Es 39 S) n120 clone_nil (SubL.refl _) ?_
    have eN:appendA T S' 32 .nilS (.slice [.int .i64 (fr+k:Nat)] 1 .exact)=some (.tok none fun j=>.slice [.int .i64 (fr+k:Nat)] 1 (.tok j)):=rfl
    simp only [go_sem,w1,w2,zAa,eN,zB,zD,zC,reduceIte,reduceCtorEq,zA]
    refine zCg (E:=Es 39 S) n118 (ih' _ _ (show IsL (.slice (ints [((fr+k:Nat):Int)]) [((fr+k:Nat):Int)].length (.tok S'.nt)) _ from .row _ _ (by simp)) hS') ?_ ?_
    ·intro x S2 hR
     cases hq:F (fr+k) with
     | some rr =>
      rw [hq] at hR hres
      obtain ⟨hx,v',hv',hS2⟩:=hR
      cases hx
      simp only [go_sem,Tryz.f118,zB,zD,zC,reduceIte,reduceCtorEq,zA]
      rw [hres]
      exact ⟨v',hv',hS2⟩
     | none =>
      rw [hq] at hR hres
      obtain ⟨hx,v',hS2⟩:=hR
      cases hx
      simp only [go_sem,w1,zB,zD,zC,reduceIte,reduceCtorEq,zA]
      exact zAj ((below+1 - (fr+(many+1))) - (k+1)) (by omega) ⟨k+1,v',rfl,by omega,rfl,hS2,by rw [hres,show (below+1 - (fr+(many+1))) - (k+1)=r by omega];rfl⟩
    ·intro x S2 hR
     exfalso
     revert hR
     split
     ·exact fun hh=>nomatch hh.1
     ·exact fun hh=>nomatch hh.1
   | row _ t hne =>
    simp only [go_sem,l118_0,c0,w0,h1,decide_true,zAa,zB,zD,zC,reduceIte,reduceCtorEq,zA]
    simp only [go_sem,c2,zB,zD,zC,reduceIte,reduceCtorEq,zA]
    refine callq_tok (E:=Es 39 S) n120 (clone_pc now (by omega) hne) (SubL.cons (Sub.unk _ _ _) (SubL.refl [])) ?_
    have eN:appendA T S' 32 (.slice (ints now) now.length (.tok S'.nt)) (.slice [.int .i64 (fr+k:Nat)] 1 .exact)=some (.tok (some S'.nt) fun j=>.slice (ints now ++ [.int .i64 (fr+k:Nat)]) (now.length+1) (.tok j)):=
     zCx (e:=3) (ei:=ti3) (lx:=[.int .i64 (fr+k:Nat)]) (nx:=1) (tl:=.tok S'.nt) rfl rfl (by decide) rfl (by decide) rfl (by simp [ti3];omega) (by omega) (by simp [ti3])
    simp only [go_sem,w1,w2,zAa,eN,zB,zD,zC,reduceIte,reduceCtorEq,zA]
    refine ⟨zO, ?_⟩
    have elist:ints now ++ [.int .i64 (fr+k:Nat)]=ints (now ++ [((fr+k:Nat):Int)]):=by simp [ints]
    have elen:now.length+1=(now ++ [((fr+k:Nat):Int)]).length:=by simp
    rw [elist,elen]
    refine zCg (E:=Es 39 S) n118 (ih' _ _ (.row _ _ (by simp)) hS') ?_ ?_
    ·intro x S2 hR
     cases hq:F (fr+k) with
     | some rr =>
      rw [hq] at hR hres
      obtain ⟨hx,v',hv',hS2⟩:=hR
      cases hx
      simp only [go_sem,Tryz.f118,zB,zD,zC,reduceIte,reduceCtorEq,zA]
      rw [hres]
      exact ⟨v',hv',hS2⟩
     | none =>
      rw [hq] at hR hres
      obtain ⟨hx,v',hS2⟩:=hR
      cases hx
      simp only [go_sem,w1,zB,zD,zC,reduceIte,reduceCtorEq,zA]
      exact zAj ((below+1 - (fr+(many+1))) - (k+1)) (by omega) ⟨k+1,v',rfl,by omega,rfl,hS2,by rw [hres,show (below+1 - (fr+(many+1))) - (k+1)=r by omega];rfl⟩
    ·intro x S2 hR
     exfalso
     revert hR
     split
     ·exact fun hh=>nomatch hh.1
     ·exact fun hh=>nomatch hh.1
  ·have h1:¬ ((fr+k+(many+1):Nat):Int)≤s.sights.length:=by omega
   rw [show (below+1 - (fr+(many+1))) - k=0 by omega] at hres
   simp only [go_sem,l118_0,c0,w0,h1,decide_false,zAa,Tryz.f118,zB,zD,zC,reduceIte,reduceCtorEq,zA]
   rw [hres]
   exact ⟨out',hS'⟩
def dropsA (s:Survey):AV:=if zAl s=true then .tuple [sl (dropsS s),.int .i64 0] else .tuple [.nilS,.int .i64 2]
theorem dropsA_bnd (s:Survey):(dropsA s).bnd 0 0=true:=by
 unfold dropsA
 split
 ·simp [AV.bnd,bndL]
 ·rfl
theorem Drops_pc (s:Survey) (hl:okL s.sights.length):PC Tryz.prog 50 [surA s] (.pure (dropsA s)):=by
 refine PC.of_frz (AC.run (E_ok _) mix Tryz.func50 m50 rfl rfl rfl (zE rfl) ?_) (by simp [bndL,AV.bnd]) (dropsA_bnd s)
 unfold dropsA
 simp only [go_sem,boxA,zB,zD,zC,reduceIte,reduceCtorEq,zA]
 refine cp n89 (zBe s hl) (SubL.refl _) ?_
 cases hs:zAl s
 ·simp only [go_sem,zAg,qB,Tryz.f50,zB,zD,zC,reduceIte,reduceCtorEq,zA]
  exact ⟨_,rfl,.same _⟩
 have hv:=zBo.1 hs
 have hm:=hv.many
 rw [if_pos rfl]
 have w0:IntKind.i64.wrap ((s.sights.length:Int)+1)=(s.sights.length+1:Nat):=wrap64 (by omega)
 have hd:=Lv.drops_is hv.toSw
 unfold shortM at hd
 simp only [go_sem,zAg,zV,zAa,w0,zAd,AV.cells,AV.one,zL,zP,zK,splice,zI,zH,and_self,zB,zD,zC,reduceIte,reduceCtorEq,zA]
 refine zAu (fun m ts' S' => ∃ k out,k≤s.sights.length+1∧m=s.sights.length+1 - k∧ts'=[(4,.ref 1 0),(5,.ref 2 0),(14,.int .i64 (s.sights.length+1:Nat)),(15,.int .i64 (k:Nat))]∧DrSt s out S'∧firstI (fun many=>searchM (fun w=>possS (zAq s w)) s.sights.length many [] 0) k (s.sights.length+1 - k)=some (dropsS s)) (s.sights.length+1) ⟨0,.nilS,qG _,rfl,rfl,⟨[],rfl⟩,hd⟩ ?_
 rintro m ts' S' ⟨k,out,hk,rfl,rfl,hS,hf⟩
 obtain ⟨c0,c1,c2⟩:=hS.at
 by_cases hkl:k<s.sights.length+1
 ·have k1:(k:Int)<(s.sights.length+1:Nat):=by omega
  have k4:IntKind.i64.wrap ((k:Int)+1)=(k+1:Nat):=wrap64 (by omega)
  obtain ⟨r,hr⟩:∃ r,s.sights.length+1 - k=r+1:=⟨s.sights.length+1 - k - 1,by omega⟩
  rw [hr] at hf
  rw [zCa] at hf
  simp only [go_sem,l50_0,k1,decide_true,c2,zB,zD,zC,reduceIte,reduceCtorEq,zA]
  refine zCg (E:=E _) n118 (drops1_ac s hv k [] .nilS 0 S' out .nil hS (by simp;omega) (by omega)) ?_ ?_
  ·intro x S2 hR
   cases hq:searchM (fun w=>possS (zAq s w)) s.sights.length k [] 0 with
   | some rr =>
    rw [hq] at hR hf
    obtain ⟨hx,v',hv',hS2⟩:=hR
    cases hx
    cases hf
    obtain ⟨d0,d1,d2⟩:=hS2.at
    simp only [go_sem,d1,Tryz.f50,zB,zD,zC,reduceIte,reduceCtorEq,zA]
    exact ⟨_,rfl,Frz.two (hv'.frz _) (.same _)⟩
   | none =>
    rw [hq] at hR hf
    obtain ⟨hx,v',hS2⟩:=hR
    cases hx
    simp only [go_sem,k4,zB,zD,zC,reduceIte,reduceCtorEq,zA]
    exact zAj (s.sights.length+1 - (k+1)) (by omega) ⟨k+1,v',hkl,rfl,rfl,hS2,by rw [show s.sights.length+1 - (k+1)=r by omega];exact hf⟩
  ·intro x S2 hR
   exfalso
   revert hR
   split
   ·exact fun hh=>nomatch hh.1
   ·exact fun hh=>nomatch hh.1
 ·rw [show s.sights.length+1 - k=0 by omega] at hf
  cases hf
end Go.Av.Lx
end
section
set_option maxHeartbeats 2000000
namespace Go.Av.Lx
open Go Go.Av Go.Av.Tb Go.Av.Fx Go.Proofs
open Go.Lv (Sight Survey Sw Sv SightOk keepS zAq dropsS blamesS possS searchM shortM firstI dropM)
open Go.Fw (Sq ent Bd Mat)
end Go.Av.Lx
end
section
set_option maxHeartbeats 2000000
namespace Go.Av.Lx
open Go Go.Av Go.Av.Tb Go.Av.Fx Go.Proofs
open Go.Lv (Sight Survey Sw Sv SightOk keepS zAq dropsS blamesS possS searchM shortM firstI dropM)
open Go.Fw (Sq ent Bd Mat)
end Go.Av.Lx
end
section
set_option maxHeartbeats 2000000
namespace Go.Av.Lx
open Go Go.Av Go.Av.Tb Go.Av.Fx Go.Proofs
open Go.Lv (Sight Survey Sw Sv SightOk Stp bgS enS stpD chainB closedB ringB stepB)
open Go.Fw (Sq ent Bd Mat)
theorem mapGet {S:St} {i:Nat} {ks:List Int} (h:S.heap[i]? = some (some (.map (metA ks)))) (n:Int):lookupA T S 181 (.map i) (.int .i64 n) false=some (.bool (ks.contains n)):=by
 have d1:descOf T 181=some (.map 3 4):=rfl
 have d2:descOf T 3=some (.int .i64):=rfl
 have d3:T 4=some ti4:=rfl
 have d4:aggD ti4.desc=false:=rfl
 simp only [lookupA,d1,d2,d3,h,isKey,d4,and_self,if_true]
 cases hc:ks.contains n
 ·rw [((zEt n ks 0).1 hc)];rfl
 ·obtain ⟨j,h1,h2⟩:=(zEt n ks 0).2 hc
  rw [h1];rfl
def badStp (s:Survey) (x:Stp):Bool:=!inB x.sight 0 (s.sights.length - 1)
theorem badStp_iff {s:Survey} {x:Stp}:badStp s x=false↔InS s x:=by
 unfold badStp
 rw [Bool.not_eq_false',inB_iff]
 exact ⟨fun ⟨a,b⟩=>⟨a,by omega⟩,fun ⟨a,b⟩=>⟨a,by omega⟩⟩
theorem isRing1_pc (s:Survey) (hl:okL s.sights.length) (x:Stp):PC Tryz.prog 134 [.agg (stpC x),.eptr (surC s) 0] (.pure (.bool (badStp s x))):=by
 refine PC.of_empty (AC.run (E_ok _) mix Tryz.func134 m134 rfl rfl rfl (zE rfl) ?_) (by simp [bndL,AV.bnd]) rfl
 have w:IntKind.i64.wrap ((s.sights.length:Int) - 1)=(s.sights.length:Int) - 1:=wrap64 (by unfold okL at hl;omega)
 unfold badStp
 simp only [go_sem,boxA,zAa,w,zB,zD,zC,reduceIte,reduceCtorEq,zA]
 refine cp n100 (in_pc _ _ _) (SubL.refl _) ?_
 rw [show (decide (x.sight ≥ 0) && decide (x.sight≤(s.sights.length:Int) - 1))=inB x.sight 0 (s.sights.length - 1) from rfl]
 simp only [go_sem,zAg,Tryz.f134,zB,zD,zC,reduceIte,reduceCtorEq,zA]
def RingTo (s:Survey) (l:List Stp) (k:Nat):Prop:=∀ i,i<k→bgS s (l.getD ((i+1) % l.length) stpD)=enS s (l.getD i stpD) ∧ ∀ j,j<i→enS s (l.getD j stpD)≠enS s (l.getD i stpD)
theorem ringTo_iff {s:Survey} {l:List Stp} (h:1<l.length):RingTo s l l.length↔closedB s l=true:=by
 unfold closedB
 rw [zS,zS,decide_eq_true_iff,decide_eq_true_iff,chainB_iff]
 constructor
 ·intro hr
  refine ⟨h,fun i hi=>⟨?_,(hr i hi).2⟩, ?_⟩
  ·rcases Nat.eq_zero_or_pos i with h0 | h0
   ·exact .inl h0
   ·have:=(hr (i - 1) (by omega)).1
    rw [show (i - 1+1) % l.length=i by rw [show i - 1+1=i by omega];exact Nat.mod_eq_of_lt hi] at this
    exact .inr this
  ·have:=(hr (l.length - 1) (by omega)).1
   rw [show (l.length - 1+1) % l.length=0 by rw [show l.length - 1+1=l.length by omega];exact Nat.mod_self _] at this
   exact this
 ·rintro ⟨_,hc,he⟩ i hi
  refine ⟨?_,(hc i hi).2⟩
  by_cases e:i+1=l.length
  ·rw [e,Nat.mod_self,show i=l.length - 1 by omega];exact he
  ·rw [Nat.mod_eq_of_lt (by omega:i+1<l.length)]
   rcases (hc (i+1) (by omega)).1 with h0 | h0
   ·omega
   ·exact h0
theorem up_bd {s:Survey} (h:Sw s) {x:Stp} (hx:InS s x):-1050≤upSt s x∧upSt s x≤1050:=(h.bd _ (Lv.step_mem hx)).2.2.2
theorem tot_bd {s:Survey} (h:Sw s):∀ {l:List Stp},Lv.StepsIn s l → -1050 * (l.length:Int)≤Wk.tot (stepB s) l∧Wk.tot (stepB s) l≤1050 * l.length
 | [],_=>by show -1050 * ((0:Nat):Int)≤0∧(0:Int)≤1050 * ((0:Nat):Int);omega
 | x :: l,hl=>by
  have h1:=tot_bd h (l:=l) fun y hy=>hl y (zQ _ hy)
  have h2:=up_bd h (hl x zO)
  unfold upSt at h2
  show -1050 * ((l.length+1:Nat):Int)≤(stepB s x).m+Wk.tot (stepB s) l∧(stepB s x).m+Wk.tot (stepB s) l≤1050 * ((l.length+1:Nat):Int)
  omega
def isRingA (s:Survey) (l:List Stp):AV:=if (zAl s && (decide (l.length≤8) && !l.any (badStp s)))=true then .tuple [.bool (ringB s l),.int .i64 0] else .tuple [.bool false,.int .i64 2]
theorem isRingA_bnd (s:Survey) (l:List Stp):(isRingA s l).bnd 0 0=true:=by
 unfold isRingA;split <;> rfl
theorem IsRing_pc (s:Survey) (hl:okL s.sights.length) (l:List Stp) (hll:okL l.length):PC Tryz.prog 71 [surA s,stpsA l] (.pure (isRingA s l)):=by
 refine PC.of_empty (AC.run (E_ok _) mix Tryz.func71 m71 rfl rfl rfl (zE rfl) ?_) (by simp [bndL,AV.bnd]) (isRingA_bnd s l)
 unfold isRingA
 simp only [go_sem,boxA,zB,zD,zC,reduceIte,reduceCtorEq,zA]
 refine cp n89 (zBe s hl) (SubL.refl _) ?_
 cases hs:zAl s
 ·simp only [go_sem,zAg,qB,qF,Tryz.f71,zB,zD,zC,reduceIte,reduceCtorEq,zA]
 have hv:=zBo.1 hs
 by_cases h8:l.length≤8
 rotate_left
 ·have h8':(l.length:Int) > 8:=by omega
  rw [decide_eq_false h8,qF,Bool.and_false]
  simp only [go_sem,zAg,zV,zAa,h8',decide_true,Tryz.f71,zB,zD,zC,reduceIte,reduceCtorEq,zA]
 have h8':¬ (l.length:Int) > 8:=by omega
 rw [decide_eq_true h8,yB,yB]
 have hC:=containsFuncP_pc l hll 134 n134 [.eptr (surC s) 0] (by simp [bndL,AV.bnd]) (badStp s) (fun x _=>isRing1_pc s hl x)
 simp only [go_sem,zAg,zV,zAa,h8',decide_false,zB,zD,zC,reduceIte,reduceCtorEq,zA]
 refine cl n133 hC (LntL.cons (.same _ (by simp [AV.bnd])) (LntL.cons (Lnt.func1 (.ptr 0 0 _ rfl (by simp [bndL,AV.bnd]))) (LntL.nil _))) rfl ?_
 cases hb:l.any (badStp s)
 rotate_left
 ·simp only [go_sem,zV,Tryz.f71,zB,zD,zC,reduceIte,reduceCtorEq,zA]
 have hin:Lv.StepsIn s l:=fun x hx=>badStp_iff.1 (by
  have:=List.any_eq_false.1 hb x hx
  simpa using this)
 rw [qB,if_pos rfl]
 have hbd:=fun k=>tot_bd hv.toSw (l:=l.take k) fun y hy=>hin y (List.mem_of_mem_take hy)
 simp only [go_sem,zEn,zAa,zB,zD,zC,reduceIte,reduceCtorEq,zA]
 refine zAu (fun m ts' S' => ∃ k X,k≤l.length∧m=l.length - k∧RingTo s l k∧ts'=[(1,stpsA l),(2,.ref 0 0),(6,.int .i64 (Wk.tot (stepB s) (l.take k))),(7,.map 1),(26,stpsA l),(27,.int .i64 l.length),(28,.int .i64 (k:Nat))]∧S'=⟨[some (.cells (surC s)),some (.map (metA ((l.take k).map (enS s))))] ++ X,0,[]⟩) l.length ⟨0,[],qG _,rfl,fun i hi=>absurd hi (qO _),rfl,rfl⟩ ?_
 rintro m ts' S' ⟨k,X,hk,rfl,hR,rfl,rfl⟩
 have c1:=fun q=>zAf X q
 have c2:=fun x B=>zAs X x B
 have c3:=fun a q=>zAf (X ++ [a]) q
 have c4:=fun a x B=>zAs (X ++ [a]) x B
 simp only [qN,yG,qX] at c3 c4
 by_cases hkl:k<l.length
 rotate_left
 ·have k1:¬ (k:Int)<l.length:=by omega
  have ek:k=l.length:=by omega
  subst ek
  rw [yH]
  by_cases h2:2≤l.length
  ·have h2':(l.length:Int) ≥ 2:=by omega
   have hcl:=(ringTo_iff (by omega)).1 hR
   simp only [go_sem,l71_0,k1,decide_false,zAa,h2',decide_true,Tryz.f71,zB,zD,zC,reduceIte,reduceCtorEq,zA]
   unfold ringB
   rw [hcl,yB]
   all_goals rfl
  ·have h2':¬ (l.length:Int) ≥ 2:=by omega
   have hcl:closedB s l=false:=by
    unfold closedB;rw [decide_eq_false (by omega),qF]
   simp only [go_sem,l71_0,k1,decide_false,zAa,h2',Tryz.f71,zB,zD,zC,reduceIte,reduceCtorEq,zA]
   unfold ringB
   rw [hcl,qF]
 have k1:(k:Int)<l.length:=by omega
 have k2:0≤(k:Int)∧(k:Int)<l.length:=by omega
 have k3:k * 2+2≤(stpsC l).length:=by rw [zBt];omega
 have k4:IntKind.i64.wrap ((k:Int)+1)=(k+1:Nat):=wrap64 (by omega)
 have k5:=zCz l k hkl
 have hx:=hin _ (zW hkl)
 have htk:l.take (k+1)=l.take k ++ [l[k]]:=qH hkl
 have htot:Wk.tot (stepB s) (l.take (k+1))=Wk.tot (stepB s) (l.take k)+upSt s l[k]:=by
  rw [htk,Wk.tot_app]
  show _+((stepB s l[k]).m+0)=_
  rw [Int.add_zero];rfl
 have hb1:=hbd (k+1)
 rw [yM] at hb1
 have ws:IntKind.i64.wrap (Wk.tot (stepB s) (l.take k)+upSt s l[k])=Wk.tot (stepB s) (l.take (k+1)):=by rw [← htot];exact wrap64 (by omega)
 have hmod:(k+1) % l.length<l.length:=Nat.mod_lt _ (by omega)
 have hr:intOp .rem .i64 ((k+1:Nat):Int) (l.length:Int)=some (.int .i64 ((k+1) % l.length:Nat)):=rem_nat (by omega)
 have n2:0≤(((k+1) % l.length:Nat):Int)∧(((k+1) % l.length:Nat):Int)<l.length:=by omega
 have n3:(k+1) % l.length * 2+2≤(stpsC l).length:=by rw [zBt];omega
 have n5:=zCz l ((k+1) % l.length) hmod
 have hxn:=hin _ (zW hmod)
 have e1:=zEb hkl
 have e2:=zEb hmod
 have hget:∀ Y,lookupA T ⟨some (.cells (surC s)) :: some (.map (metA ((l.take k).map (enS s)))) :: Y,0,[]⟩ 181 (.map 1) (.int .i64 (enS s l[k])) false=some (.bool (((l.take k).map (enS s)).contains (enS s l[k]))):=fun Y=>mapGet rfl _
 have hput:∀ Y,zAx T ⟨some (.cells (surC s)) :: some (.map (metA ((l.take k).map (enS s)))) :: Y,0,[]⟩ 181 (.map 1) (.int .i64 (enS s l[k])) (.bool true)=some (.write 1 (.map (metA (addK ((l.take k).map (enS s)) (enS s l[k])))) .undef):=fun Y=>mapUpd rfl _
 have hfail:¬ RingTo s l (k+1)→ringB s l=false:=fun hn=>by
  unfold ringB
  by_cases h2:1<l.length
  ·cases hc:closedB s l with
   | false=>rfl
   | true=>exact absurd (fun i hi=>(ringTo_iff h2).2 hc i (by omega)) hn
  ·have hcl:closedB s l=false:=by
    unfold closedB;rw [decide_eq_false (by omega),qF]
   rw [hcl,qF]
 simp only [surC] at hget hput
 simp only [go_sem,l71_0,k1,decide_true,k2,k3,k5,zAh,and_self,c1,c2,zAd,AV.cells,AV.one,zL,zP,zK,splice,zI,zH,zB,zD,zC,reduceIte,reduceCtorEq,zA]
 refine cp n135 (rises_pc s hv.toSw l[k] hx) (SubL.refl _) ?_
 simp only [go_sem,c1,ws,zB,zD,zC,reduceIte,reduceCtorEq,zA]
 refine cp n136 (ends_pc s l[k] hx) (SubL.refl _) ?_
 simp only [go_sem,k4,zAa,hr,n2,n3,n5,zAh,and_self,c1,c2,c3,c4,zAd,AV.cells,AV.one,zL,zP,zK,splice,zI,zH,zB,zD,zC,reduceIte,reduceCtorEq,zA]
 refine cp n137 (zFc s l[(k+1) % l.length] hxn) (SubL.refl _) ?_
 by_cases hne:bgS s l[(k+1) % l.length]=enS s l[k]
 rotate_left
 ·have hd:=decide_eq_true hne
  simp only [go_sem,hd,Tryz.f71,zB,zD,zC,reduceIte,reduceCtorEq,zA]
  rw [hfail fun hh=>hne (by have:=(hh k (by omega)).1;rw [e1,e2] at this;exact this)]
 have hd:decide (bgS s l[(k+1) % l.length]≠enS s l[k])=false:=decide_eq_false fun h=>h hne
 cases hc:((l.take k).map (enS s)).contains (enS s l[k])
 rotate_left
 ·rw [hc] at hget
  simp only [go_sem,hd,hget,Tryz.f71,zB,zD,zC,reduceIte,reduceCtorEq,zA]
  rw [hfail fun hh=>by
   rw [List.contains_iff_mem,List.mem_map] at hc
   obtain ⟨y,hy,ey⟩:=hc
   obtain ⟨j,hj,rfl⟩:=List.mem_iff_getElem.1 hy
   rw [yM] at hj
   rw [List.getElem_take] at ey
   have:=(hh k (by omega)).2 j (by omega)
   rw [e1,zEb (by omega:j<l.length)] at this
   exact this ey]
 rw [hc] at hget
 have hadd:addK ((l.take k).map (enS s)) (enS s l[k])=(l.take (k+1)).map (enS s):=by
  unfold addK
  rw [hc,if_neg (by decide),htk,qS];rfl
 rw [hadd] at hput
 simp only [go_sem,hd,hget,hput,zAd,k4,zB,zD,zC,reduceIte,reduceCtorEq,zA]
 refine zAj (l.length - (k+1)) (by omega) ⟨k+1,_,hkl,rfl,fun i hi => ?_,rfl,rfl⟩
 by_cases ei:i=k
 ·subst ei
  refine ⟨by rw [e1,e2];exact hne,fun j hj ee => ?_⟩
  rw [e1,zEb (by omega:j<l.length)] at ee
  have:((l.take i).map (enS s)).contains (enS s l[i])=true:=by
   rw [List.contains_iff_mem,List.mem_map]
   refine ⟨l[j], ?_,ee⟩
   rw [List.mem_iff_getElem]
   exact ⟨j,by rw [yM];omega,by rw [List.getElem_take]⟩
  rw [hc] at this;cases this
 ·exact hR i (by omega)
end Go.Av.Lx
end
section
set_option maxHeartbeats 2000000
namespace Go.Av.Lx
open Go Go.Av Go.Av.Tb Go.Av.Fx Go.Proofs
open Go.Lv (Sight Survey Sw Sv SightOk Stp bgS enS riseS stpD chainB closedB ringB ringA ringR stepB stpAt firstI shortR)
open Go.Fw (Sq ent Bd Mat)
theorem zFe (l:List Stp) (k j:Nat) (h:k<l.length) (hj:j<2):(stpsC l)[k * 2+j]? = (stpC l[k])[j]?:=by
 rw [← zCz l k h,List.getElem?_take_of_lt hj,List.getElem?_drop]
def zCc (s:Survey) (l:List Stp):Bool:=decide (l.length≤8) && !l.any (badStp s)
theorem Steps_pc (s:Survey) (hl:okL s.sights.length) (l:List Stp) (hll:okL l.length):PC Tryz.prog 73 [surA s,stpsA l] (.pure (.bool (zCc s l))):=by
 refine PC.of_empty (AC.run (E_ok _) mix Tryz.func73 m73 rfl rfl rfl (zE rfl) ?_) (by simp [bndL,AV.bnd]) rfl
 have w:IntKind.i64.wrap ((s.sights.length:Int) - 1)=(s.sights.length:Int) - 1:=wrap64 (by unfold okL at hl;omega)
 simp only [go_sem,boxA,zB,zD,zC,reduceIte,reduceCtorEq,zA]
 refine zBd l.length (fun k => ∀ i (h1:i<k) (h2:i<l.length),badStp s l[i]=false) (fun k=>[(1,stpsA l),(2,.ref 0 0),(5,.int .i64 (k:Nat))]) (fun _=>⟨[some (.cells (surC s))],0,[]⟩) (fun i hi=>absurd hi (qO _)) rfl rfl ?_
 intro k hk hP I hI
 by_cases hlt:k<l.length
 ·have h1:(k:Int)<l.length:=by omega
  have h4:IntKind.i64.wrap ((k:Int)+1)=(k+1:Nat):=wrap64 (by unfold okL at hll;omega)
  have k2:0≤(k:Int)∧(k:Int)<l.length:=by omega
  have g0:(stpsC l)[k * 2+0]? = some (.int .i64 l[k].sight):=zFe l k 0 hlt (by decide)
  have hbs:badStp s l[k] = !inB l[k].sight 0 (s.sights.length - 1):=rfl
  simp only [go_sem,l73_0,zAa,h1,decide_true,k2,zAh,and_self,g0,w,zB,zD,zC,reduceIte,reduceCtorEq,zA]
  refine cp n88 (rin_pc _ _ _) (SubL.refl _) ?_
  rw [← Bool.not_not (inB l[k].sight 0 (s.sights.length - 1)),← hbs]
  cases hb:badStp s l[k]
  ·simp only [go_sem,zAg,qB,zV,h4,zB,zD,zC,reduceIte,reduceCtorEq,zA]
   refine hI hlt fun i h1 h2 => ?_
   by_cases ei:i=k
   ·subst ei;exact hb
   ·exact hP i (by omega) h2
  ·have hno:zCc s l=false:=by
    unfold zCc
    rw [show l.any (badStp s)=true from List.any_eq_true.2 ⟨l[k],zW hlt,hb⟩];simp
   simp only [go_sem,zAg,qB,zV,Tryz.f73,zB,zD,zC,reduceIte,reduceCtorEq,zA]
   rw [hno]
 ·have h1:¬ (k:Int)<l.length:=by omega
  have hany:l.any (badStp s)=false:=List.any_eq_false.2 fun x hx=>by
   obtain ⟨i,hi,rfl⟩:=List.mem_iff_getElem.1 hx
   rw [hP i (by omega) hi];decide
  have hd:decide ((l.length:Int)≤8)=decide (l.length≤8):=decide_eq_decide.2 (by omega)
  simp only [go_sem,l73_0,zAa,h1,decide_false,hd,Tryz.f73,zB,zD,zC,reduceIte,reduceCtorEq,zA]
  unfold zCc
  rw [hany,qB,Bool.and_true]
end Go.Av.Lx
end
section
set_option maxHeartbeats 2000000
namespace Go.Av.Lx
open Go Go.Av Go.Av.Tb Go.Av.Fx Go.Proofs
open Go.Lv (Sight Survey Sw Sv SightOk Stp ringB ringA ringR firstI shortR)
open Go.Fw (Sq ent Bd Mat)

end Go.Av.Lx
end
