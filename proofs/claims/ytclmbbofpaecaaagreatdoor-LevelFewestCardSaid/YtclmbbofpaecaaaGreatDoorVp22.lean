/- Part 22 of the proof. -/
import Derived.Test.YtclmbbofpaecaaaGreatDoorVp21
import Derived.Test.YtclmbbofpaecaaaGreatDoorVp19
set_option linter.all false
set_option linter.unusedVariables false
set_option linter.unusedSimpArgs false
set_option linter.unusedSectionVars false
open Bool renaming and_self → zJ, and_eq_true → zR, not_true → zV, not_false → qD, false_and → qG, true_and → yA, not_eq_true' → yO, or_eq_true → yR
open Int renaming toNat_natCast → qT
open List renaming getElem?_eq_getElem → zF, getD_eq_getElem?_getD → zG, set_cons_succ → zH, set_cons_zero → zI, all_cons → zL, all_nil → zO, mem_cons_self → zP, getElem_mem → zX, length_append → qC, take_succ_eq_append_getElem → qF, length_nil → qL, map_append → qR, not_mem_nil → qY, take_length → qZ, nil_append → yF, mem_singleton → yH, mem_cons → yK, range_succ → yN
open Nat renaming reduceLeDiff → zA, reduceEqDiff → zB, reduceAdd → zC, reduceBEq → zD, le_of_ble_eq_true → zE, le_refl → zN, zero_le → qH
open Option renaming map_some → zW
section
set_option maxHeartbeats 2000000
namespace Go.Av.Lx
open Go Go.Av Go.Av.Tb Go.Av.Fx Go.Proofs
open Go.Lv (Sight Survey Sw Sv SightOk Try TryOk sum2 sum3 withL allowsB tried riseAt worstAt worstW)
open Go.Fw (Sq ent Bd Mat)
abbrev Sm (a:Int):Prop:=a<far → -1000000≤a∧a≤1000000
theorem sum2_eq {a b:Int} (ha:Sm a) (hb:Sm b):sumF 0 [a,b]=sum2 a b:=by
 have ef:far=1099511627776:=rfl
 have ef2:Lv.far=1099511627776:=rfl
 unfold sumF sumF sumF sum2
 by_cases h1:a ≥ far
 ·rw [if_pos h1,if_pos (.inl h1)];rfl
 have k1:=ha (by omega)
 have w1:IntKind.i64.wrap (0+a)=a:=by rw [Int.zero_add];exact wrap64 (by omega)
 rw [if_neg h1,w1]
 by_cases h2:b ≥ far
 ·rw [if_pos h2,if_pos (.inr h2)];rfl
 have k2:=hb (by omega)
 rw [if_neg h2,if_neg (by omega)]
 exact wrap64 (by omega)
theorem sum3_eq {a b c:Int} (ha:Sm a) (hb:Sm b) (hc:Sm c):sumF 0 [a,b,c]=sum3 a b c:=by
 have ef:far=1099511627776:=rfl
 have ef2:Lv.far=1099511627776:=rfl
 unfold sumF sumF sumF sumF sum3
 by_cases h1:a ≥ far
 ·rw [if_pos h1,if_pos (.inl h1)];rfl
 have k1:=ha (by omega)
 have w1:IntKind.i64.wrap (0+a)=a:=by rw [Int.zero_add];exact wrap64 (by omega)
 rw [if_neg h1,w1]
 by_cases h2:b ≥ far
 ·rw [if_pos h2,if_pos (.inr (.inl h2))];rfl
 have k2:=hb (by omega)
 have w2:IntKind.i64.wrap (a+b)=a+b:=wrap64 (by omega)
 rw [if_neg h2,w2]
 by_cases h3:c ≥ far
 ·rw [if_pos h3,if_pos (.inr (.inr h3))];rfl
 have k3:=hc (by omega)
 rw [if_neg h3,if_neg (by omega)]
 exact wrap64 (by omega)
theorem sm_ent {s:Survey} (h:Sw s) {V:Mat} (hV:Lv.knownV s=some V) {i j:Nat} (hi:i<Lv.num s) (hj:j<Lv.num s):Sm (ent V i j):=fun hf=>by
 have:=Lv.known_bd h hV hi hj hf
 omega
@[go_sem] theorem bs_int2 (a b:Int):zAe T 32 2 [(0,.int .i64 a),(1,.int .i64 b)]=some (.slice [.int .i64 a,.int .i64 b] 2 .exact):=rfl
@[go_sem] theorem bs_int3 (a b c:Int):zAe T 32 3 [(0,.int .i64 a),(1,.int .i64 b),(2,.int .i64 c)]=some (.slice [.int .i64 a,.int .i64 b,.int .i64 c] 3 .exact):=rfl
structure BoS (n:Nat) (x:Bound):Prop where
 a:0≤x.a∧x.a<n
 b:0≤x.b∧x.b<n
 most:-1000000≤x.most∧x.most≤1000000
theorem allows1_pc (s:Survey) (h:Sw s) {V:Mat} (hV:Lv.knownV s=some V) (x:Bound) (hx:BoS (Lv.num s) x):PC Tryz.prog 177 [.agg (bndC x),.eptr (kvC s (wS V)) 0] (.pure (.bool (decide (sum2 (ent V x.b.toNat x.a.toNat) x.most<0)))):=by
 refine PC.of_empty (AC.run (E_ok _) mix Tryz.func177 m177 rfl rfl rfl (zE rfl) ?_) (by simp [bndL,AV.bnd]) rfl
 have hsq:Sq (Lv.num s) V:=zBk (ds:=[]) hV
 obtain ⟨a,b,m⟩:=x
 have h1:=hx.a;have h2:=hx.b;have h3:=hx.most
 simp only at h1 h2 h3
 obtain ⟨a,rfl⟩:∃ a':Nat,a=a':=⟨a.toNat,by omega⟩
 obtain ⟨b,rfl⟩:∃ b':Nat,b=b':=⟨b.toNat,by omega⟩
 have ha:a<Lv.num s:=by omega
 have hb:b<Lv.num s:=by omega
 have hs:=sum2_eq (sm_ent h hV hb ha) (fun _=>h3)
 simp only [qT]
 have hf:=Lv.sum2 (ent V b a) m
 have ga:=zDt hsq hb
 have gl:=hsq.getD hb
 have e:=zBe hsq hb ha
 have xa:0≤(b:Int)∧(b:Int)<(V.length:Int):=by have:=hsq.1;omega
 have xb:0≤(a:Int)∧(a:Int)<(Lv.num s:Int):=by omega
 have hsum:=sum_pc' [ent V b a,m] (by show 2<9223372036854775807;decide)
 rw [hs] at hsum
 simp only [go_sem,boxA,xa,xb,ga,gl,e,zAf,and_self,zB,zD,zC,reduceIte,reduceCtorEq,zA]
 refine cp n151 hsum (SubL.cons (Sub.unk _ 2 .exact) (SubL.refl [])) ?_
 simp only [go_sem,Tryz.f177,zB,zD,zC,reduceIte,reduceCtorEq,zA]
theorem sB_two {n:Int} {y:Sight} (hy:SightOk n y):sB y=[⟨y.frm,y.to,y.rise+y.off⟩,⟨y.to,y.frm,y.off - y.rise⟩]:=by
 have h1:=hy.rise;have h2:=hy.off
 have w1:IntKind.i64.wrap (y.rise+y.off)=y.rise+y.off:=wrap64 (by omega)
 have w2:IntKind.i64.wrap (y.off - y.rise)=y.off - y.rise:=wrap64 (by omega)
 simp only [sB,w1,w2]
theorem sB_bos {s:Survey} (h:Sw s) {y:Sight} (hy:SightOk s.stations y):∀ x∈sB y,BoS (Lv.num s) x:=by
 have hst:s.stations=(Lv.num s:Int):=by have:=h.st;show _=((s.stations.toNat:Nat):Int);omega
 have h1:=hy.rise;have h2:=hy.off;have h3:=hy.frm;have h4:=hy.to
 rw [sB_two hy]
 intro x hx
 simp only [yK,qY,or_false] at hx
 rcases hx with rfl | rfl
 ·exact ⟨by show 0≤y.frm∧y.frm<_;omega,by show 0≤y.to∧y.to<_;omega,by show -1000000≤y.rise+y.off∧y.rise+y.off≤_;omega⟩
 ·exact ⟨by show 0≤y.to∧y.to<_;omega,by show 0≤y.frm∧y.frm<_;omega,by show -1000000≤y.off - y.rise∧y.off - y.rise≤_;omega⟩
theorem allows_pc (s:Survey) (h:Sw s) {V:Mat} (hV:Lv.knownV s=some V) (y:Sight) (hy:SightOk s.stations y):PC Tryz.prog 158 [kA s V,.agg (sgtC y)] (.pure (.bool (allowsB V y))):=by
 refine PC.of_empty (AC.run (E_ok _) mix Tryz.func158 m158 rfl rfl rfl (zE rfl) ?_) (by simp [bndL,AV.bnd]) rfl
 have hC:=containsFuncB_pc (sB y) (by show 2<9223372036854775807;decide) 177 n177 [.eptr (kvC s (wS V)) 0] (by simp [bndL,AV.bnd]) (fun x=>decide (sum2 (ent V x.b.toNat x.a.toNat) x.most<0)) (fun x hx=>allows1_pc s h hV x (sB_bos h hy x hx))
 have hany:(!(sB y).any fun x=>decide (sum2 (ent V x.b.toNat x.a.toNat) x.most<0))=allowsB V y:=by
  rw [sB_two hy]
  unfold allowsB
  simp
 simp only [go_sem,boxA,zB,zD,zC,reduceIte,reduceCtorEq,zA]
 refine cp n91 (zDv y) (SubL.refl _) ?_
 simp only [go_sem,zB,zD,zC,reduceIte,reduceCtorEq,zA]
 refine cl n176 hC (LntL.cons (.unk _ 2 .exact (bnds_bnd _ _ _)) (LntL.cons (Lnt.func1 (.ptr 0 0 _ rfl (by simp [bndL,AV.bnd]))) (LntL.nil _))) rfl ?_
 simp only [go_sem,zAh,hany,Tryz.f158,zB,zD,zC,reduceIte,reduceCtorEq,zA]
theorem with_draw {s:Survey} (h:Sw s) {V:Mat} (hV:Lv.knownV s=some V) {i j:Nat} (hi:i<Lv.num s) (hj:j<Lv.num s) (x:Bound) (hx:BoS (Lv.num s) x) (w:Int) (B N K:AV) (L:Nat) (H:List (Option Blk)) (nt:Nat) (tk:List Nat) (c0:cellsAt H 0=some (kvC s (wS V))) (cL:cellsAt H L=some (bndC x)) (Q:AQ)
  (hQ:Q .normal [(2,.int .i64 i),(3,.int .i64 j),(4,.ref 0 0),(9,.int .i64 (min w (sum3 (ent V i x.a.toNat) x.most (ent V x.b.toNat j)))),(21,B),(22,N),(23,K)] ⟨H,nt,tk⟩) :
  WC (E 53) (.draw [2,3,4,9,21,22,23] 23 [] r159_5) Q [(2,.int .i64 i),(3,.int .i64 j),(4,.ref 0 0),(9,.int .i64 w),(21,B),(22,N),(23,K),(11,.ref L 0)] ⟨H,nt,tk⟩:=by
 have hsq:Sq (Lv.num s) V:=zBk (ds:=[]) hV
 obtain ⟨a,b,m⟩:=x
 have h1:=hx.a;have h2:=hx.b;have h3:=hx.most
 simp only at h1 h2 h3
 obtain ⟨a,rfl⟩:∃ a':Nat,a=a':=⟨a.toNat,by omega⟩
 obtain ⟨b,rfl⟩:∃ b':Nat,b=b':=⟨b.toNat,by omega⟩
 have ha:a<Lv.num s:=by omega
 have hb:b<Lv.num s:=by omega
 have hs:=sum3_eq (sm_ent h hV hi ha) (fun _=>h3) (sm_ent h hV hb hj)
 simp only [qT] at hQ
 have hsum:=sum_pc' [ent V i a,m,ent V b j] (by show 3<9223372036854775807;decide)
 rw [hs] at hsum
 generalize sum3 (ent V i a) m (ent V b j)=z at *
 have hmn:(if z<w then z else w)=min w z:=by split <;> omega
 have ga:=zDt hsq hi
 have gl:=hsq.getD hi
 have ea:=zBe hsq hi ha
 have gb:=zDt hsq hb
 have gm:=hsq.getD hb
 have eb:=zBe hsq hb hj
 have xi:0≤(i:Int)∧(i:Int)<(V.length:Int):=by have:=hsq.1;omega
 have xb:0≤(b:Int)∧(b:Int)<(V.length:Int):=by have:=hsq.1;omega
 have xa:0≤(a:Int)∧(a:Int)<(Lv.num s:Int):=by omega
 have xj:0≤(j:Int)∧(j:Int)<(Lv.num s:Int):=by omega
 simp only [go_sem,c0,cL,xi,xb,xa,xj,ga,gl,ea,gb,gm,eb,zAf,and_self,zB,zD,zC,reduceIte,reduceCtorEq,zA]
 refine qp n151 hsum (SubL.cons (Sub.unk _ 3 .exact) (SubL.refl [])) ?_
 simp only [go_sem,zAa,minsA,hmn,zB,zD,zC,reduceIte,reduceCtorEq,zA]
 exact hQ
end Go.Av.Lx
end
section
set_option maxHeartbeats 2000000
namespace Go.Av.Lx
open Go Go.Av Go.Av.Tb Go.Av.Fx Go.Proofs
open Go.Lv (Sight Survey Sw Sv SightOk Try TryOk sum2 sum3 withL allowsB tried riseAt worstAt worstW bestAt)
open Go.Fw (Sq ent Bd Mat)
@[go_sem] theorem bd_lsight (a b c d:Int):buildA T 85 [(0,.int .i64 a),(1,.int .i64 b),(2,.int .i64 c),(3,.int .i64 d)]=some (.agg [.int .i64 a,.int .i64 b,.int .i64 c,.int .i64 d]):=rfl
theorem with_pc (s:Survey) (h:Sw s) {V:Mat} (hV:Lv.knownV s=some V) (y:Sight) (hy:SightOk s.stations y) {i j:Nat} (hi:i<Lv.num s) (hj:j<Lv.num s):PC Tryz.prog 159 [kA s V,.agg (sgtC y),.int .i64 i,.int .i64 j] (.pure (.int .i64 (withL V y i j))):=by
 refine PC.of_empty (AC.run (E_ok _) mix Tryz.func159 m159 rfl rfl rfl (zE rfl) ?_) (by simp [bndL,AV.bnd]) rfl
 have hsq:Sq (Lv.num s) V:=zBk (ds:=[]) hV
 have ga:=zDt hsq hi
 have gl:=hsq.getD hi
 have e:=zBe hsq hi hj
 have xa:0≤(i:Int)∧(i:Int)<(V.length:Int):=by have:=hsq.1;omega
 have xb:0≤(j:Int)∧(j:Int)<(Lv.num s:Int):=by omega
 obtain ⟨F,hF⟩:∃ F:Int→Bound→Int,F=fun w x=>min w (sum3 (ent V i x.a.toNat) x.most (ent V x.b.toNat j)):=⟨_,rfl⟩
 have hres:withL V y i j=(sB y).foldl F (ent V i j):=by rw [sB_two hy,hF];rfl
 have hbos:=sB_bos h hy
 have hl2:(sB y).length=2:=rfl
 rw [hres]
 simp only [go_sem,boxA,xa,xb,ga,gl,e,zAf,and_self,zB,zD,zC,reduceIte,reduceCtorEq,zA]
 refine cp n91 (zDv y) (SubL.refl _) ?_
 have hlen:zAa T St.empty .len [138] [.slice (bnds (sB y)) 2 .exact]=some (.pure (.int .i64 (2:Nat))):=rfl
 simp only [go_sem,zAa,zB,zD,zC,reduceIte,reduceCtorEq,zA]
 refine wc_forE 2 (fun k=>[(2,.int .i64 i),(3,.int .i64 j),(4,.ref 0 0),(9,.int .i64 (((sB y).take k).foldl F (ent V i j))),(21,.slice (bnds (sB y)) 2 .exact),(22,.int .i64 (2:Nat)),(23,.int .i64 (k:Nat))])
  (fun k S => ∃ X,S=⟨[some (.cells (kvC s (wS V))),some (.cells (sgtC y))] ++ X,0,[]⟩) rfl ⟨[],rfl⟩ ?_
 rintro k hk S ⟨X,rfl⟩ I hI
 by_cases hlt:k<2
 ·have h1:(k:Int)<(2:Nat):=by omega
  have h2:0≤(k:Int)∧(k:Int)<(2:Nat):=by omega
  have h3:k * 3+3≤(bnds (sB y)).length:=by rw [bnds_len,hl2];omega
  have h4:IntKind.i64.wrap ((k:Int)+1)=(k+1:Nat):=wrap64 (by omega)
  have h5:=bnds_at (sB y) k (by rw [hl2];exact hlt)
  have hx:=hbos _ (zX (by rw [hl2];exact hlt:k<(sB y).length))
  have hI:=hI hlt
  rw [zDe _ _ _ _ (by rw [hl2];exact hlt)] at hI
  have c1:=fun l=>zAg X l
  have c2:=fun x B=>zAs X x B
  generalize ((sB y).take k).foldl F (ent V i j)=w at *
  generalize (sB y)[k]=x at *
  obtain ⟨D,hD⟩:∃ D,MC.draw [2,3,4,9,21,22,23] 23 [] r159_5=D:=⟨_,rfl⟩
  unfold l159_0
  rw [hD]
  simp only [go_sem,h1,decide_true,h2,h3,h5,zAf,and_self,c1,c2,zAd,AV.cells,AV.one,zL,zO,zJ,splice,zI,zH,zB,zD,zC,reduceIte,reduceCtorEq,zA]
  subst hD
  refine with_draw h hV hi hj x hx w _ _ _ _ _ _ _ rfl ?_ _ ?_
  ·exact zAg (some (.cells (kvC s (wS V))) :: some (.cells (sgtC y)) :: X) _
  simp only [go_sem,h4,zB,zD,zC,reduceIte,reduceCtorEq,zA]
  rw [hF] at hI
  exact hI _ ⟨X ++ [some (.cells (bndC x))],rfl⟩
 ·have h1:¬ (k:Int)<(2:Nat):=by omega
  have ek:k=2:=by omega
  subst ek
  have e2:(sB y).take 2=sB y:=rfl
  rw [e2]
  simp only [go_sem,l159_0,h1,decide_false,Tryz.f159,zB,zD,zC,reduceIte,reduceCtorEq,zA]
theorem withL_bd {s:Survey} (h:Sw s) {V:Mat} (hV:Lv.knownV s=some V) {y:Sight} (hy:SightOk s.stations y) (ha:allowsB V y=true) {i j:Nat} (hi:i<Lv.num s) (hj:j<Lv.num s) (hf:ent V i j<far):-8400≤withL V y i j∧withL V y i j≤8400:=by
 have hk:=Lv.with_known h hy hV
 rw [ha] at hk
 cases hV':Lv.knownV (Lv.withS s y) with
 | none=>rw [hV'] at hk;cases hk
 | some V' =>
  have e:=Lv.with_ent h hy hV hV' hi hj hf
  have hle:withL V y i j≤ent V i j:=by unfold withL;omega
  have:=Lv.known_bd (Lv.with_sw h hy) hV' (i:=i) (j:=j) hi hj (by rw [e];exact Int.lt_of_le_of_lt hle hf)
  rw [e] at this
  exact this
theorem tryWorst_pc (s:Survey) (h:Sw s) {V:Mat} (hV:Lv.knownV s=some V) (x:Try) (hx:TryOk s.stations x) {i j:Nat} (hi:i<Lv.num s) (hj:j<Lv.num s) (hf:ent V i j<far):PC Tryz.prog 116 [kA s V,.agg (tryC x),.int .i64 i,.int .i64 j] (.pure (.int .i64 (worstW V x i j))):=by
 refine PC.of_empty (AC.run (E_ok _) mix Tryz.func116 m116 rfl rfl rfl (zE rfl) ?_) (by simp [bndL,AV.bnd]) rfl
 have hf2:=Lv.known_sym h hV hi hj hf
 have b1:=Lv.known_bd h hV hi hj hf
 have b2:=Lv.known_bd h hV hj hi hf2
 have hsq:Sq (Lv.num s) V:=zBk (ds:=[]) hV
 simp only [go_sem,boxA,zB,zD,zC,reduceIte,reduceCtorEq,zA]
 refine wc_forE 2001 (fun k=>[(2,.int .i64 i),(3,.int .i64 j),(4,.ref 0 0),(5,.ref 1 0),(9,.int .i64 (worstAt V x i j k)),(10,.int .i64 (riseAt k))])
  (fun k S => ∃ X,S=⟨[some (.cells (kvC s (wS V))),some (.cells (tryC x))] ++ X,0,[]⟩) rfl ⟨[],rfl⟩ ?_
 rintro k hk S ⟨X,rfl⟩ I hI
 by_cases hlt:k<2001
 ·have h1:riseAt k≤1000:=by unfold riseAt;omega
  have h4:IntKind.i64.wrap (riseAt k+1)=riseAt (k+1):=by unfold riseAt;rw [wrap64 (by omega)];omega
  have hr:-1000≤riseAt k∧riseAt k≤1000:=⟨by unfold riseAt;omega,h1⟩
  have hy:=Lv.tried_ok hx hr
  have hI:=hI hlt
  have hw:worstAt V x i j (k+1)=if allowsB V (tried x (riseAt k))=true then max (worstAt V x i j k) (withL V (tried x (riseAt k)) i j+withL V (tried x (riseAt k)) j i) else worstAt V x i j k:=rfl
  rw [hw,← h4] at hI
  have hap:=allows_pc s h hV _ hy
  have hwp1:=with_pc s h hV _ hy hi hj
  have hwp2:=with_pc s h hV _ hy hj hi
  have hbd1:=fun ha=>withL_bd h hV hy ha hi hj hf
  have hbd2:=fun ha=>withL_bd h hV hy ha hj hi hf2
  have ht:sgtC (tried x (riseAt k))=[.int .i64 x.frm,.int .i64 x.to,.int .i64 (riseAt k),.int .i64 x.off]:=rfl
  rw [ht] at hap hwp1 hwp2
  generalize tried x (riseAt k)=y at *
  generalize riseAt k=r at *
  generalize worstAt V x i j k=w at *
  have c1:=fun l=>zAg X l
  have c2:=fun x B=>zAs X x B
  simp only [go_sem,l116_0,h1,decide_true,c1,c2,zAd,AV.cells,AV.one,zL,zO,zJ,splice,zI,zH,and_self,zB,zD,zC,reduceIte,reduceCtorEq,zA]
  refine cp n158 hap (SubL.refl _) ?_
  cases ha:allowsB V y
  ·rw [ha,if_neg (by decide)] at hI
   simp only [go_sem,zB,zD,zC,reduceIte,reduceCtorEq,zA]
   exact hI _ ⟨X ++ [some (.cells [.int .i64 x.frm,.int .i64 x.to,.int .i64 r,.int .i64 x.off])],rfl⟩
  ·rw [ha,if_pos rfl] at hI
   have a1:=hbd1 ha
   have a2:=hbd2 ha
   have wz:IntKind.i64.wrap (withL V y i j+withL V y j i)=withL V y i j+withL V y j i:=wrap64 (by omega)
   have hmx:(if withL V y i j+withL V y j i > w then withL V y i j+withL V y j i else w)=max w (withL V y i j+withL V y j i):=by split <;> omega
   simp only [go_sem,c1,zB,zD,zC,reduceIte,reduceCtorEq,zA]
   refine qp n159 hwp1 (SubL.refl _) ?_
   simp only [go_sem,c1,zB,zD,zC,reduceIte,reduceCtorEq,zA]
   refine qp n159 hwp2 (SubL.refl _) ?_
   simp only [go_sem,wz,zAa,maxsA,hmx,zB,zD,zC,reduceIte,reduceCtorEq,zA]
   exact hI _ ⟨X ++ [some (.cells [.int .i64 x.frm,.int .i64 x.to,.int .i64 r,.int .i64 x.off])],rfl⟩
 ·have h1:¬ riseAt k≤1000:=by unfold riseAt;omega
  have ek:k=2001:=by omega
  subst ek
  unfold worstW
  by_cases hn:worstAt V x i j 2001<0
  ·rw [if_pos hn]
   have ga:=zDt hsq hi
   have gl:=hsq.getD hi
   have ea:=zBe hsq hi hj
   have gb:=zDt hsq hj
   have gm:=hsq.getD hj
   have eb:=zBe hsq hj hi
   have xi:0≤(i:Int)∧(i:Int)<(V.length:Int):=by have:=hsq.1;omega
   have xb:0≤(j:Int)∧(j:Int)<(V.length:Int):=by have:=hsq.1;omega
   have xa:0≤(i:Int)∧(i:Int)<(Lv.num s:Int):=by omega
   have xj:0≤(j:Int)∧(j:Int)<(Lv.num s:Int):=by omega
   have wz:IntKind.i64.wrap (ent V i j+ent V j i)=ent V i j+ent V j i:=wrap64 (by omega)
   simp only [go_sem,l116_0,h1,decide_false,hn,decide_true,zB,zD,zC,reduceIte,reduceCtorEq,zA]
   simp only [go_sem,xi,xb,xa,xj,ga,gl,ea,gb,gm,eb,zAf,and_self,wz,Tryz.f116,zB,zD,zC,reduceIte,reduceCtorEq,zA]
  ·rw [if_neg hn]
   simp only [go_sem,l116_0,h1,decide_false,hn,Tryz.f116,zB,zD,zC,reduceIte,reduceCtorEq,zA]
end Go.Av.Lx
end
section
set_option maxHeartbeats 2000000
namespace Go.Av.Lx
open Go Go.Av Go.Av.Tb Go.Av.Fx Go.Proofs
open Go.Lv (Sight Survey Sw Sv SightOk Try TryOk worstW bestAt)
open Go.Fw (Sq ent Bd Mat)
def tryD:Try:=⟨0,0,0⟩
theorem try_getD {l:List Try} {k:Nat} (h:k<l.length):l.getD k tryD=l[k]:=by rw [zG,zF h];rfl
def triesB (s:Survey) (l:List Try):Bool:=inB l.length 1 4 && !l.any (badTry s)
def tryW (V:Mat) (l:List Try) (i j:Nat) (k:Nat):Int:=worstW V (l.getD k tryD) i j
def takesA (s:Survey) (i j:Int) (l:List Try):AV:=betwA s i j (triesB s l) [.int .i64 0,.int .i64 0] fun V=>[.int .i64 (bestAt (tryW V l i.toNat j.toNat) (l.length - 1):Nat),.int .i64 (tryW V l i.toNat j.toNat (bestAt (tryW V l i.toNat j.toNat) (l.length - 1)))]
theorem Takes_pc (s:Survey) (hl:okL s.sights.length) (i j:Int) (l:List Try) (hll:okL l.length):PC Tryz.prog 47 [surA s,.int .i64 i,.int .i64 j,triesA l] (.pure (takesA s i j l)):=by
 refine PC.of_empty (AC.run (E_ok _) mix Tryz.func47 m47 rfl rfl rfl (zE rfl) ?_) (by simp [bndL,AV.bnd]) (zFb rfl fun _=>rfl)
 unfold takesA
 obtain ⟨fine,hfine⟩:∃ fine,triesB s l=fine:=⟨_,rfl⟩
 have key:∀ Q:AQ,Q .normal [(1,.int .i64 i),(2,.int .i64 j),(3,triesA l),(4,.ref 0 0),(11,.bool fine)] ⟨[some (.cells (surC s))],0,[]⟩→WC (E 64) (.region [1,2,3,4,11] r47_1) Q [(1,.int .i64 i),(2,.int .i64 j),(3,triesA l),(4,.ref 0 0)] ⟨[some (.cells (surC s))],0,[]⟩:=by
  intro Q hQ
  unfold triesB at hfine
  simp only [go_sem,zAa,zB,zD,zC,reduceIte,reduceCtorEq,zA]
  refine cp n100 (in_pc _ _ _) (SubL.refl _) ?_
  rw [show (decide ((l.length:Int) ≥ 1) && decide ((l.length:Int)≤4))=inB l.length 1 4 from rfl]
  cases h1:inB l.length 1 4
  ·rw [h1,qG] at hfine
   rw [← hfine] at hQ
   simp only [go_sem,zB,zD,zC,reduceIte,reduceCtorEq,zA]
   exact hQ
  rw [h1,yA] at hfine
  have hC:=containsFuncT_pc l hll 114 n114 [.eptr (surC s) 0] (by simp [bndL,AV.bnd]) (badTry s) (fun x _=>takes1_pc s x)
  simp only [go_sem,zB,zD,zC,reduceIte,reduceCtorEq,zA]
  refine cl n113 hC (LntL.cons (.same _ (by simp [AV.bnd])) (LntL.cons (Lnt.func1 (.ptr 0 0 _ rfl (by simp [bndL,AV.bnd]))) (LntL.nil _))) rfl ?_
  simp only [go_sem,zAh,hfine,zB,zD,zC,reduceIte,reduceCtorEq,zA]
  exact hQ
 obtain ⟨C,hC⟩:∃ C,MC.region [1,2,3,4,11] r47_1=C:=⟨_,rfl⟩
 unfold c47
 rw [hC]
 simp only [go_sem,boxA,zB,zD,zC,reduceIte,reduceCtorEq,zA]
 subst hC
 refine key _ ?_
 simp only [go_sem,zB,zD,zC,reduceIte,reduceCtorEq,zA]
 refine cp n84 (zCl s hl i j fine) (SubL.refl _) ?_
 rcases zDh s i j fine [.int .i64 0,.int .i64 0] (fun V=>[.int .i64 (bestAt (tryW V l i.toNat j.toNat) (l.length - 1):Nat),.int .i64 (tryW V l i.toNat j.toNat (bestAt (tryW V l i.toNat j.toNat) (l.length - 1)))]) with ⟨k,hk,_,e1,e2⟩ | ⟨V,hv,hf,hV,hj,e1,e2⟩
 ·rw [e1,hfine,e2]
  simp only [go_sem,zAc,hk,zAd,AV.cells,AV.one,zL,zO,zJ,splice,zI,zH,and_self,Tryz.f47,zB,zD,zC,reduceIte,reduceCtorEq,zA]
  all_goals rfl
 rw [e1,hfine,e2]
 rw [hf] at hfine
 unfold triesB at hfine
 rw [zR,yO] at hfine
 obtain ⟨hin,hbad⟩:=hfine
 have hlen:1≤l.length∧l.length≤4:=by have:=inB_iff.1 hin;omega
 have htry:∀ x∈l,TryOk s.stations x:=fun x hx=>(try_iff hv.st).1 (by
  have:=List.any_eq_false.1 hbad x hx
  simpa using this)
 have hst:s.stations=(Lv.num s:Int):=by have:=hv.st;show _=((s.stations.toNat:Nat):Int);omega
 have hi:=hj.hi;have hjj:=hj.hj;have he:=hj.e1
 have ef:far=1099511627776:=rfl
 obtain ⟨a,rfl⟩:∃ a:Nat,i=a:=⟨i.toNat,by omega⟩
 obtain ⟨b,rfl⟩:∃ b:Nat,j=b:=⟨j.toNat,by omega⟩
 simp only [qT] at he ⊢
 have ha:a<Lv.num s:=by omega
 have hb:b<Lv.num s:=by omega
 have hlt:ent V a b<far:=by omega
 clear e1 e2 key
 simp only [go_sem,zAc,kvC,zAa,zAd,AV.cells,AV.one,zL,zO,zJ,splice,zI,zH,and_self,zB,zD,zC,reduceIte,reduceCtorEq,zA]
 refine zAt (fun m ts' S' => ∃ k W nt tk X,k≤l.length∧m=l.length - k∧ts'=[(1,.int .i64 a),(2,.int .i64 b),(12,.ref 1 0),(14,W),(39,triesA l),(40,.int .i64 l.length),(41,.int .i64 (k:Nat))]∧S'=⟨[some (.cells (surC s)),some (.cells (kvC s (wS V)))] ++ X,nt,tk⟩∧Own (chos (tryW V l a b) k) k W nt tk) l.length ⟨0,.nilS,0,[],[],qH _,rfl,rfl,rfl,Own.nil _ _⟩ ?_
 rintro m ts' S' ⟨k,W,nt,tk,X,hk,rfl,rfl,rfl,ho⟩
 have c1:=fun q=>zAg X q
 have c2:=fun x B=>zAs X x B
 by_cases hkl:k<l.length
 ·have k1:(k:Int)<l.length:=by omega
  have k2:0≤(k:Int)∧(k:Int)<l.length:=by omega
  have k3:k * 3+3≤(triesC l).length:=by rw [triesC_len];omega
  have k4:IntKind.i64.wrap ((k:Int)+1)=(k+1:Nat):=wrap64 (by omega)
  have k5:=tries_at l k hkl
  have hx:=htry _ (zX hkl)
  have hw:worstW V l[k] a b=tryW V l a b k:=by unfold tryW;rw [try_getD hkl]
  have hwp:=tryWorst_pc s hv.toSw hV l[k] hx ha hb hlt
  rw [hw] at hwp
  generalize l[k]=x at *
  simp only [go_sem,l47_0,k1,decide_true,k2,k3,k5,zAf,and_self,c1,c2,zAd,AV.cells,AV.one,zL,zO,zJ,splice,zI,zH,kvC,zB,zD,zC,reduceIte,reduceCtorEq,zA]
  refine cp n116 hwp (SubL.refl _) ?_
  simp only [go_sem,zAa,zB,zD,zC,reduceIte,reduceCtorEq,zA]
  refine zDw (lx:=[.int .i64 k,.int .i64 (tryW V l a b k)]) rowChoices ho (chos_len _ _) rfl (by decide) rfl (by omega) fun W' tk' g => ?_
  simp only [go_sem,k4,zB,zD,zC,reduceIte,reduceCtorEq,zA]
  refine zAi (l.length - (k+1)) (by omega) ⟨k+1,W',nt+1,tk',_,hkl,rfl,rfl,rfl, ?_⟩
  have:=g.own
  rw [chos_succ] at this
  exact this
 ·have k1:¬ (k:Int)<l.length:=by omega
  have ek:k=l.length:=by omega
  subst ek
  simp only [go_sem,l47_0,k1,decide_false,zB,zD,zC,reduceIte,reduceCtorEq,zA]
  refine cp n111 (best_pc (tryW V l a b) l.length (by omega) (by omega)) (SubL.cons ho.sub (SubL.refl _)) ?_
  simp only [go_sem,c1,c2,zAd,AV.cells,AV.one,zL,zO,zJ,splice,zI,zH,and_self,Tryz.f47,zB,zD,zC,reduceIte,reduceCtorEq,zA]
  all_goals rfl
end Go.Av.Lx
end
section
set_option maxHeartbeats 2000000
namespace Go.Av.Lx
open Go Go.Av Go.Av.Tb Go.Av.Fx Go.Proofs
open Go.Lv (Sight Survey Sw Sv SightOk Try TryOk worstW bestAt withS tried riseAt widthAt)
open Go.Fw (Sq ent Bd Mat)
theorem app_sgt0 (S:St) (tx:Tail):appendA T S 22 .nilS (.slice [] 0 tx)=some (.pure .nilS):=rfl
theorem sgts_one (l:List Sight):(sgts l).all AV.one=true:=cat_one (f:=sgtC) (fun _=>rfl) l
theorem zFf (l:List Sight) (x:Sight):sgts l ++ sgtC x=sgts (l ++ [x]):=cat_snoc (f:=sgtC) l x
theorem own_sq0s {l:List Sight} (hl:l.length≤100) {b:St} {tx:Tail} {nt:Nat} {toks:List Nat} {H:List (Option Blk)} {K:AV→St→Prop} {hK:Hold K}
  (next:∀ V' nt' toks',nt≤nt'→Own (sgts l) l.length V' nt' toks'→K V' ⟨H,nt',toks'⟩):sq K hK (appendA T b 22 .nilS (.slice (sgts l) l.length tx)) ⟨H,nt,toks⟩:=by
 rcases Nat.eq_zero_or_pos l.length with h | h
 ·have e:l=[]:=List.length_eq_zero_iff.1 h
  subst e
  rw [show sgts []=[] from rfl,qL,app_sgt0,sq_pure]
  exact next _ _ _ (zN _) (Own.nil _ _)
 ·refine own_sq (l:=[]) (n:=0) zDx (Own.nil _ _) rfl (by rw [zAz];omega) (by omega) (sgts_one l) (by omega) fun V' toks' g => ?_
  have:=g.own
  rw [yF,Nat.zero_add] at this
  exact next _ _ _ (by omega) this
@[go_sem] theorem bs_sgt (a b c d:Int):zAe T 22 1 [(0,.agg [.int .i64 a,.int .i64 b,.int .i64 c,.int .i64 d])]=some (.slice [.int .i64 a,.int .i64 b,.int .i64 c,.int .i64 d] 1 .exact):=rfl
theorem zDq {h:List (Option Blk)} {a b a' b':AV} (h1:Frz h a a') (h2:Frz h b b'):Frz h (.agg [a,b]) (.agg [a',b']):=
 .agg _ _ rfl fun j x y hx hy=>by
  match j,hx,hy with
  | 0,hx,hy=>simp at hx hy;subst hx;subst hy;exact h1
  | 1,hx,hy=>simp at hx hy;subst hx;subst hy;exact h2
  | j+2,hx,hy=>simp at hx
theorem With_pc (s:Survey) (hl:s.sights.length≤100) (y:Sight):PC Tryz.prog 55 [surA s,.agg (sgtC y)] (.pure (surA (withS s y))):=by
 refine PC.of_frz (AC.run (E_ok _) mix Tryz.func55 m55 rfl rfl rfl (zE rfl) ?_) (by simp [bndL,AV.bnd]) (by simp [bndL,AV.bnd])
 simp only [go_sem,boxA,zAd,AV.cells,AV.one,zL,zO,zJ,splice,zI,zH,and_self,zAa,zB,zD,zC,reduceIte,reduceCtorEq,zA]
 refine own_sq0s hl fun V1 nt1 tk1 _ o1 => ?_
 simp only [go_sem,zAa,zB,zD,zC,reduceIte,reduceCtorEq,zA]
 refine zDw (lx:=sgtC y) zDx o1 (by rw [zAz];omega) rfl (by decide) rfl (by omega) fun V2 tk2 g => ?_
 obtain ⟨q1,q2⟩:=g.own.cells
 have go:=g.own
 rw [zFf] at go
 simp only [go_sem,q1,q2,zAd,zL,zO,zJ,splice,zI,zH,and_self,zB,zD,zC,reduceIte,reduceCtorEq,zA]
 simp only [go_sem,zAd,AV.cells,q2,AV.one,zL,zO,zJ,splice,zI,zH,and_self,Tryz.f55,zB,zD,zC,reduceIte,reduceCtorEq,zA]
 refine ⟨_,rfl,zDq (.same _) ?_⟩
 rw [show (withS s y).sights=s.sights ++ [y] from rfl,qC,List.length_singleton]
 exact go.frz _
end Go.Av.Lx
end
section
set_option maxHeartbeats 2000000
namespace Go.Av.Lx
open Go Go.Av Go.Av.Tb Go.Av.Fx Go.Proofs
open Go.Lv (Sight Survey Sw Sv SightOk Try TryOk worstW bestAt withS tried riseAt widthAt withL)
open Go.Fw (Sq ent Bd Mat)

end Go.Av.Lx
end
section
set_option maxHeartbeats 2000000
namespace Go.Av.Lx
open Go Go.Av Go.Av.Tb Go.Av.Fx Go.Proofs
open Go.Lv (Sight Survey Sw Sv SightOk keepS zAk blamesS dropsS possS)
open Go.Fw (Sq ent Bd Mat)
theorem without_pc (s:Survey) (hl:s.sights.length≤100) (w:List Int) (hw:okL w.length):PC Tryz.prog 119 [surA s,sl w] (.pure (surA (zAk s w))):=by
 refine PC.of_frz (AC.run (E_ok _) mix Tryz.func119 m119 rfl rfl rfl (zE rfl) ?_) (by simp [bndL,AV.bnd]) (by simp [bndL,AV.bnd])
 have bd24:∀ a,buildA T 24 [(0,.int .i64 a)]=some (.agg [.int .i64 a,.nilS]):=fun a=>rfl
 simp only [go_sem,boxA,zAa,bd24,zAd,AV.cells,AV.one,zL,zO,zJ,splice,zI,zH,and_self,zB,zD,zC,reduceIte,reduceCtorEq,zA]
 refine zAt (fun m ts' S' => ∃ k W nt tk X,k≤s.sights.length∧m=s.sights.length - k∧ts'=[(1,sl w),(4,.ref 1 0),(5,.ref 2 0),(12,.slice (sgts s.sights) s.sights.length .unk),(13,.int .i64 s.sights.length),(14,.int .i64 (k:Nat))]∧S'=⟨[some (.cells (surC s)),some (.cells [.int .i64 0,.nilS]),some (.cells [.int .i64 s.stations,W])] ++ X,nt,tk⟩∧Own (sgts (keepS s w k)) (keepS s w k).length W nt tk) s.sights.length ⟨0,.nilS,0,[],[],qH _,rfl,rfl,rfl,Own.nil _ _⟩ ?_
 rintro m ts' S' ⟨k,W,nt,tk,X,hk,rfl,rfl,rfl,ho⟩
 have c1:=fun q=>zAg X q
 have c2:=fun x B=>zAs X x B
 by_cases hkl:k<s.sights.length
 ·have k1:(k:Int)<s.sights.length:=by omega
  have k2:0≤(k:Int)∧(k:Int)<s.sights.length:=by omega
  have k3:k * 4+4≤(sgts s.sights).length:=by rw [zAz];omega
  have k4:IntKind.i64.wrap ((k:Int)+1)=(k+1:Nat):=wrap64 (by omega)
  have k5:=zCc s.sights k hkl
  have hks:=Lv.keep_succ s w k
  have hg:s.sights.getD k Lv.sightZ=s.sights[k]:=by rw [zG,zF hkl];rfl
  have hkl2:=Lv.keep_len s w k
  rw [hg] at hks
  generalize s.sights[k]=x at *
  simp only [go_sem,l119_0,k1,decide_true,k2,k3,k5,zAf,and_self,c1,c2,zAd,AV.cells,AV.one,zL,zO,zJ,splice,zI,zH,zB,zD,zC,reduceIte,reduceCtorEq,zA]
  refine cp n160 (contains_pc w hw k) (SubL.refl _) ?_
  cases hc:w.contains (k:Int)
  ·rw [hc,if_neg (by decide)] at hks
   simp only [go_sem,zAh,qD,c1,zAa,zB,zD,zC,reduceIte,reduceCtorEq,zA]
   refine zDw (lx:=sgtC x) zDx ho (by rw [zAz];omega) rfl (by decide) rfl (by omega) fun W' tk' g => ?_
   obtain ⟨q1,q2⟩:=g.own.cells
   simp only [go_sem,q1,q2,zAd,zL,zO,zJ,splice,zI,zH,and_self,k4,zB,zD,zC,reduceIte,reduceCtorEq,zA]
   refine zAi (s.sights.length - (k+1)) (by omega) ⟨k+1,W',nt+1,tk',_,hkl,rfl,rfl,rfl, ?_⟩
   have:=g.own
   rw [zFf] at this
   rw [hks,qC,List.length_singleton]
   exact this
  ·rw [hc,if_pos rfl] at hks
   simp only [go_sem,zAh,zV,k4,zB,zD,zC,reduceIte,reduceCtorEq,zA]
   exact zAi (s.sights.length - (k+1)) (by omega) ⟨k+1,W,nt,tk,_,hkl,rfl,rfl,rfl,by rw [hks];exact ho⟩
 ·have k1:¬ (k:Int)<s.sights.length:=by omega
  have ek:k=s.sights.length:=by omega
  subst ek
  have hfz:=fun H=>ho.frz H
  rcases ho with ⟨rfl,_,_⟩ | ⟨q,rfl,_,_⟩
  ·simp only [go_sem,l119_0,k1,decide_false,zAd,AV.cells,AV.one,zL,zO,zJ,splice,zI,zH,and_self,Tryz.f119,zB,zD,zC,reduceIte,reduceCtorEq,zA]
   exact ⟨_,rfl,zDq (.same _) (hfz _)⟩
  ·simp only [go_sem,l119_0,k1,decide_false,zAd,AV.cells,AV.one,zL,zO,zJ,splice,zI,zH,and_self,Tryz.f119,zB,zD,zC,reduceIte,reduceCtorEq,zA]
   exact ⟨_,rfl,zDq (.same _) (hfz _)⟩
def blamesA (s:Survey):AV:=if zAo s=true then .tuple [sl (blamesS s),.int .i64 0] else .tuple [.nilS,.int .i64 2]
theorem blamesA_bnd (s:Survey):(blamesA s).bnd 0 0=true:=by
 unfold blamesA
 split
 ·simp [AV.bnd,bndL]
 ·rfl
def blamesK (s:Survey) (k:Nat):List Int:=((List.range k).filter fun (i:Nat)=>possS (zAk s [(i:Int)])).map fun (i:Nat)=>(i:Int)
theorem blamesK_succ (s:Survey) (k:Nat):blamesK s (k+1)=if possS (zAk s [(k:Int)])=true then blamesK s k ++ [(k:Int)] else blamesK s k:=by
 unfold blamesK
 rw [yN,List.filter_append,qR]
 cases h:possS (zAk s [(k:Int)]) <;> simp [h]
theorem blamesK_len (s:Survey) (k:Nat):(blamesK s k).length≤k:=by
 unfold blamesK;rw [List.length_map];exact Nat.le_trans (List.length_filter_le _ _) (by simp)
theorem Blames_pc (s:Survey) (hl:okL s.sights.length):PC Tryz.prog 51 [surA s] (.pure (blamesA s)):=by
 refine PC.of_frz (AC.run (E_ok _) mix Tryz.func51 m51 rfl rfl rfl (zE rfl) ?_) (by simp [bndL,AV.bnd]) (blamesA_bnd s)
 unfold blamesA
 simp only [go_sem,boxA,zB,zD,zC,reduceIte,reduceCtorEq,zA]
 refine cp n89 (zBg s hl) (SubL.refl _) ?_
 cases hs:zAo s
 ·simp only [go_sem,zAh,qD,Tryz.f51,zB,zD,zC,reduceIte,reduceCtorEq,zA]
  exact ⟨_,rfl,.same _⟩
 have hv:=zBr.1 hs
 have hm:=hv.many
 rw [if_pos rfl]
 simp only [go_sem,zAh,zV,zAa,zB,zD,zC,reduceIte,reduceCtorEq,zA]
 refine zAt (fun m ts' S' => ∃ k W nt tk,k≤s.sights.length∧m=s.sights.length - k∧ts'=[(1,.ref 0 0),(4,W),(11,.int .i64 s.sights.length),(12,.int .i64 (k:Nat))]∧S'=⟨[some (.cells (surC s))],nt,tk⟩∧Own (ints (blamesK s k)) (blamesK s k).length W nt tk) s.sights.length ⟨0,.nilS,0,[],qH _,rfl,rfl,rfl,Own.nil _ _⟩ ?_
 rintro m ts' S' ⟨k,W,nt,tk,hk,rfl,rfl,rfl,ho⟩
 by_cases hkl:k<s.sights.length
 ·have k1:(k:Int)<s.sights.length:=by omega
  have k4:IntKind.i64.wrap ((k:Int)+1)=(k+1:Nat):=wrap64 (by omega)
  have hks:=blamesK_succ s k
  have hbl:=blamesK_len s k
  have hwp:=without_pc s (by omega) [(k:Int)] (by show 1<9223372036854775807;decide)
  have hsw:=Lv.without_sv hv [(k:Int)]
  have hpp:=zDn (zAk s [(k:Int)]) hsw.toSw (by have:=hsw.many;omega)
  simp only [go_sem,l51_0,k1,decide_true,zB,zD,zC,reduceIte,reduceCtorEq,zA]
  refine cp n119 hwp (SubL.cons (Sub.refl _) (SubL.cons (Sub.unk _ 1 .exact) (SubL.refl []))) ?_
  simp only [go_sem,zB,zD,zC,reduceIte,reduceCtorEq,zA]
  refine cp n107 hpp (SubL.refl _) ?_
  cases hp:possS (zAk s [(k:Int)])
  ·rw [hp,if_neg (by decide)] at hks
   simp only [go_sem,k4,zB,zD,zC,reduceIte,reduceCtorEq,zA]
   exact zAi (s.sights.length - (k+1)) (by omega) ⟨k+1,W,nt,tk,hkl,rfl,rfl,rfl,by rw [hks];exact ho⟩
  ·rw [hp,if_pos rfl] at hks
   simp only [go_sem,zAa,zB,zD,zC,reduceIte,reduceCtorEq,zA]
   refine zDw (lx:=[.int .i64 k]) rowInts ho (by simp) rfl (by decide) rfl (by omega) fun W' tk' g => ?_
   simp only [go_sem,k4,zB,zD,zC,reduceIte,reduceCtorEq,zA]
   refine zAi (s.sights.length - (k+1)) (by omega) ⟨k+1,W',nt+1,tk',hkl,rfl,rfl,rfl, ?_⟩
   have:=g.own
   rw [show [AV.int .i64 (k:Int)]=ints [(k:Int)] from rfl,ints_app] at this
   rw [hks,qC,List.length_singleton]
   exact this
 ·have k1:¬ (k:Int)<s.sights.length:=by omega
  have ek:k=s.sights.length:=by omega
  subst ek
  simp only [go_sem,l51_0,k1,decide_false,Tryz.f51,zB,zD,zC,reduceIte,reduceCtorEq,zA]
  exact ⟨_,rfl,Frz.two (ho.frz _) (.same _)⟩
end Go.Av.Lx
end
section
set_option maxHeartbeats 2000000
namespace Go.Av.Lx
open Go Go.Av Go.Av.Tb Go.Av.Fx Go.Proofs
open Go.Lv (Sight Survey Sw Sv SightOk keepS zAk dropsS possS searchM shortM firstI dropM)
open Go.Fw (Sq ent Bd Mat)
abbrev drF:AV:=.func (.func 118) [] [.ref 1 0,.ref 0 0,.ref 2 0]
def DrSt (s:Survey) (out:AV) (S:St):Prop:=∃ ex,S.heap=some (.cells (surC s)) :: some (.cells [out]) :: some (.cells [drF]) :: ex
theorem DrSt.at {s:Survey} {out:AV} {S:St} (h:DrSt s out S):cellsAt S.heap 0=some (surC s)∧cellsAt S.heap 1=some [out]∧cellsAt S.heap 2=some [drF]:=by
 obtain ⟨ex,h⟩:=h
 rw [h]
 exact ⟨rfl,rfl,rfl⟩
theorem DrSt.set {s:Survey} {out:AV} {S:St} (h:DrSt s out S) (v:AV):DrSt s v { S with heap:=setH S.heap 1 (.cells [v]) }:=by
 obtain ⟨ex,h⟩:=h
 refine ⟨ex, ?_⟩
 show setH S.heap _ _=_
 rw [h];rfl
theorem zBw {β:Type} (f:Nat→Option β) (n r:Nat):firstI f n (r+1)=match f n with | some x=>some x | none=>firstI f (n+1) r:=rfl
theorem drops1_ac (s:Survey) (hv:Sv s) :
  ∀ (many:Nat) (now:List Int) (v:AV) (fr:Nat) (S:St) (out:AV),IsL v now→DrSt s out S→now.length+many≤s.sights.length→fr≤1000000 →
   AC Tryz.prog 118 [v,.int .i64 fr,.int .i64 many,.ref 1 0,.ref 0 0,.ref 2 0] S fun e S' =>
    match searchM (fun w=>possS (zAk s w)) s.sights.length many now fr with
    | some r=>e=.ret (.bool true) ∧ ∃ v',IsL v' r∧DrSt s v' S'
    | none=>e=.ret (.bool false) ∧ ∃ v',DrSt s v' S':=by
 have hb:=hv.many
 obtain ⟨below,hbelow⟩:∃ b,b=s.sights.length:=⟨_,rfl⟩
 rw [← hbelow] at hb ⊢
 intro many
 induction many with
 | zero =>
  intro now v fr S out hvl hS hlen hfr
  refine AC.run (Es_ok 39 S) mix Tryz.func118 m118 rfl rfl rfl (zE rfl) ?_
  have hz:decide (((0:Nat):Int)=0)=true:=rfl
  obtain ⟨c0,c1,c2⟩:=hS.at
  have o1:=hvl.one
  have cv:=cells_one o1
  have hS1:=hS.set v
  obtain ⟨d0,d1,d2⟩:=hS1.at
  have hwp:=without_pc s (by omega) now (by show now.length<9223372036854775807;omega)
  have hsw:=Lv.without_sv hv now
  have hpp:=zDn (zAk s now) hsw.toSw (by have:=hsw.many;omega)
  simp only [go_sem,hz,c0,c1,c2,o1,cv,zAd,zL,zO,zJ,splice,zI,zH,and_self,d0,d1,d2,zB,zD,zC,reduceIte,reduceCtorEq,zA]
  refine zCa (E:=Es 39 S) n119 hwp (SubL.cons (Sub.refl _) (SubL.cons hvl.sub (SubL.refl []))) ?_
  simp only [go_sem,zB,zD,zC,reduceIte,reduceCtorEq,zA]
  refine zCa (E:=Es 39 S) n107 hpp (SubL.refl _) ?_
  simp only [go_sem,Tryz.f118,zB,zD,zC,reduceIte,reduceCtorEq,zA]
  unfold searchM
  cases hp:possS (zAk s now)
  ·rw [if_neg (by decide)]
   exact ⟨rfl,v,hS1⟩
  ·rw [if_pos rfl]
   exact ⟨rfl,v,hvl,hS1⟩
 | succ many ih =>
  intro now v fr S out hvl hS hlen hfr
  refine AC.run (Es_ok 39 S) mix Tryz.func118 m118 rfl rfl rfl (zE rfl) ?_
  have hz:decide (((many+1:Nat):Int)=0)=false:=by rw [decide_eq_false_iff_not];omega
  obtain ⟨F,hF⟩:∃ F:Nat→Option (List Int),F=fun n:Nat=>searchM (fun w=>possS (zAk s w)) below many (now ++ [(n:Int)]) (n+1):=⟨_,rfl⟩
  have hsm:searchM (fun w=>possS (zAk s w)) below (many+1) now fr=firstI F fr (below+1 - (fr+(many+1))):=by rw [hF];rfl
  rw [hsm]
  simp only [go_sem,hz,zB,zD,zC,reduceIte,reduceCtorEq,zA]
  refine zAt (fun n ts S' => ∃ k out',n=(below+1 - (fr+(many+1))) - k∧k≤below+1 - (fr+(many+1))∧ts=[(0,v),(2,.int .i64 (many+1:Nat)),(4,.ref 0 0),(5,.ref 2 0),(10,.int .i64 (fr+k:Nat))]∧DrSt s out' S' ∧
   firstI F fr (below+1 - (fr+(many+1)))=firstI F (fr+k) ((below+1 - (fr+(many+1))) - k)) (below+1 - (fr+(many+1))) ⟨0,out,rfl,qH _,rfl,hS,rfl⟩ ?_
  rintro n ts S' ⟨k,out',hn,hk,rfl,hS',hres⟩
  obtain ⟨c0,c1,c2⟩:=hS'.at
  have w0:IntKind.i64.wrap (((fr+k:Nat):Int)+((many+1:Nat):Int))=(fr+k+(many+1):Nat):=by rw [wrap64 (by omega)];omega
  by_cases h':fr+k+(many+1)≤below
  ·have h1:((fr+k+(many+1):Nat):Int)≤s.sights.length:=by omega
   obtain ⟨r,hr⟩:∃ r,(below+1 - (fr+(many+1))) - k=r+1:=⟨(below+1 - (fr+(many+1))) - k - 1,by omega⟩
   rw [hr] at hres
   rw [zBw] at hres
   have eF:F (fr+k)=searchM (fun w=>possS (zAk s w)) below many (now ++ [((fr+k:Nat):Int)]) (fr+k+1):=by rw [hF]
   have w1:IntKind.i64.wrap (((fr+k:Nat):Int)+1)=(fr+k+1:Nat):=wrap64 (by omega)
   have w2:IntKind.i64.wrap (((many+1:Nat):Int) - 1)=(many:Nat):=by rw [wrap64 (by omega)];omega
   have ih':=fun v S hvl hS=>ih (now ++ [((fr+k:Nat):Int)]) v (fr+k+1) S out' hvl hS (by simp;omega) (by omega)
   rw [← eF] at ih'
   cases hvl with
   | nil =>
    simp only [go_sem,l118_0,c0,w0,h1,decide_true,zAa,zB,zD,zC,reduceIte,reduceCtorEq,zA]
    simp only [go_sem,c2,zB,zD,zC,reduceIte,reduceCtorEq,zA]
    refine zBm (E:=Es 39 S) n120 clone_nil (SubL.refl _) ?_
    have eN:appendA T S' 32 .nilS (.slice [.int .i64 (fr+k:Nat)] 1 .exact)=some (.tok none fun j=>.slice [.int .i64 (fr+k:Nat)] 1 (.tok j)):=rfl
    simp only [go_sem,w1,w2,zAa,eN,zB,zD,zC,reduceIte,reduceCtorEq,zA]
    refine zCb (E:=Es 39 S) n118 (ih' _ _ (show IsL (.slice (ints [((fr+k:Nat):Int)]) [((fr+k:Nat):Int)].length (.tok S'.nt)) _ from .row _ _ (by simp)) hS') ?_ ?_
    ·intro x S2 hR
     cases hq:F (fr+k) with
     | some rr =>
      rw [hq] at hR hres
      obtain ⟨hx,v',hv',hS2⟩:=hR
      cases hx
      simp only [go_sem,Tryz.f118,zB,zD,zC,reduceIte,reduceCtorEq,zA]
      rw [hres]
      exact ⟨v',hv',hS2⟩
     | none =>
      rw [hq] at hR hres
      obtain ⟨hx,v',hS2⟩:=hR
      cases hx
      simp only [go_sem,w1,zB,zD,zC,reduceIte,reduceCtorEq,zA]
      exact zAi ((below+1 - (fr+(many+1))) - (k+1)) (by omega) ⟨k+1,v',rfl,by omega,rfl,hS2,by rw [hres,show (below+1 - (fr+(many+1))) - (k+1)=r by omega];rfl⟩
    ·intro x S2 hR
     exfalso
     revert hR
     split
     ·exact fun hh=>nomatch hh.1
     ·exact fun hh=>nomatch hh.1
   | row _ t hne =>
    simp only [go_sem,l118_0,c0,w0,h1,decide_true,zAa,zB,zD,zC,reduceIte,reduceCtorEq,zA]
    simp only [go_sem,c2,zB,zD,zC,reduceIte,reduceCtorEq,zA]
    refine callq_tok (E:=Es 39 S) n120 (clone_pc now (by omega) hne) (SubL.cons (Sub.unk _ _ _) (SubL.refl [])) ?_
    have eN:appendA T S' 32 (.slice (ints now) now.length (.tok S'.nt)) (.slice [.int .i64 (fr+k:Nat)] 1 .exact)=some (.tok (some S'.nt) fun j=>.slice (ints now ++ [.int .i64 (fr+k:Nat)]) (now.length+1) (.tok j)):=
     zCx (e:=3) (ei:=ti3) (lx:=[.int .i64 (fr+k:Nat)]) (nx:=1) (tl:=.tok S'.nt) rfl rfl (by decide) rfl (by decide) rfl (by simp [ti3];omega) (by omega) (by simp [ti3])
    simp only [go_sem,w1,w2,zAa,eN,zB,zD,zC,reduceIte,reduceCtorEq,zA]
    refine ⟨zP, ?_⟩
    have elist:ints now ++ [.int .i64 (fr+k:Nat)]=ints (now ++ [((fr+k:Nat):Int)]):=by simp [ints]
    have elen:now.length+1=(now ++ [((fr+k:Nat):Int)]).length:=by simp
    rw [elist,elen]
    refine zCb (E:=Es 39 S) n118 (ih' _ _ (.row _ _ (by simp)) hS') ?_ ?_
    ·intro x S2 hR
     cases hq:F (fr+k) with
     | some rr =>
      rw [hq] at hR hres
      obtain ⟨hx,v',hv',hS2⟩:=hR
      cases hx
      simp only [go_sem,Tryz.f118,zB,zD,zC,reduceIte,reduceCtorEq,zA]
      rw [hres]
      exact ⟨v',hv',hS2⟩
     | none =>
      rw [hq] at hR hres
      obtain ⟨hx,v',hS2⟩:=hR
      cases hx
      simp only [go_sem,w1,zB,zD,zC,reduceIte,reduceCtorEq,zA]
      exact zAi ((below+1 - (fr+(many+1))) - (k+1)) (by omega) ⟨k+1,v',rfl,by omega,rfl,hS2,by rw [hres,show (below+1 - (fr+(many+1))) - (k+1)=r by omega];rfl⟩
    ·intro x S2 hR
     exfalso
     revert hR
     split
     ·exact fun hh=>nomatch hh.1
     ·exact fun hh=>nomatch hh.1
  ·have h1:¬ ((fr+k+(many+1):Nat):Int)≤s.sights.length:=by omega
   rw [show (below+1 - (fr+(many+1))) - k=0 by omega] at hres
   simp only [go_sem,l118_0,c0,w0,h1,decide_false,zAa,Tryz.f118,zB,zD,zC,reduceIte,reduceCtorEq,zA]
   rw [hres]
   exact ⟨out',hS'⟩
def dropsA (s:Survey):AV:=if zAo s=true then .tuple [sl (dropsS s),.int .i64 0] else .tuple [.nilS,.int .i64 2]
theorem dropsA_bnd (s:Survey):(dropsA s).bnd 0 0=true:=by
 unfold dropsA
 split
 ·simp [AV.bnd,bndL]
 ·rfl
theorem Drops_pc (s:Survey) (hl:okL s.sights.length):PC Tryz.prog 50 [surA s] (.pure (dropsA s)):=by
 refine PC.of_frz (AC.run (E_ok _) mix Tryz.func50 m50 rfl rfl rfl (zE rfl) ?_) (by simp [bndL,AV.bnd]) (dropsA_bnd s)
 unfold dropsA
 simp only [go_sem,boxA,zB,zD,zC,reduceIte,reduceCtorEq,zA]
 refine cp n89 (zBg s hl) (SubL.refl _) ?_
 cases hs:zAo s
 ·simp only [go_sem,zAh,qD,Tryz.f50,zB,zD,zC,reduceIte,reduceCtorEq,zA]
  exact ⟨_,rfl,.same _⟩
 have hv:=zBr.1 hs
 have hm:=hv.many
 rw [if_pos rfl]
 have w0:IntKind.i64.wrap ((s.sights.length:Int)+1)=(s.sights.length+1:Nat):=wrap64 (by omega)
 have hd:=Lv.drops_is hv.toSw
 unfold shortM at hd
 simp only [go_sem,zAh,zV,zAa,w0,zAd,AV.cells,AV.one,zL,zO,zJ,splice,zI,zH,and_self,zB,zD,zC,reduceIte,reduceCtorEq,zA]
 refine zAt (fun m ts' S' => ∃ k out,k≤s.sights.length+1∧m=s.sights.length+1 - k∧ts'=[(4,.ref 1 0),(5,.ref 2 0),(14,.int .i64 (s.sights.length+1:Nat)),(15,.int .i64 (k:Nat))]∧DrSt s out S'∧firstI (fun many=>searchM (fun w=>possS (zAk s w)) s.sights.length many [] 0) k (s.sights.length+1 - k)=some (dropsS s)) (s.sights.length+1) ⟨0,.nilS,qH _,rfl,rfl,⟨[],rfl⟩,hd⟩ ?_
 rintro m ts' S' ⟨k,out,hk,rfl,rfl,hS,hf⟩
 obtain ⟨c0,c1,c2⟩:=hS.at
 by_cases hkl:k<s.sights.length+1
 ·have k1:(k:Int)<(s.sights.length+1:Nat):=by omega
  have k4:IntKind.i64.wrap ((k:Int)+1)=(k+1:Nat):=wrap64 (by omega)
  obtain ⟨r,hr⟩:∃ r,s.sights.length+1 - k=r+1:=⟨s.sights.length+1 - k - 1,by omega⟩
  rw [hr] at hf
  rw [zBw] at hf
  simp only [go_sem,l50_0,k1,decide_true,c2,zB,zD,zC,reduceIte,reduceCtorEq,zA]
  refine zCb (E:=E _) n118 (drops1_ac s hv k [] .nilS 0 S' out .nil hS (by simp;omega) (by omega)) ?_ ?_
  ·intro x S2 hR
   cases hq:searchM (fun w=>possS (zAk s w)) s.sights.length k [] 0 with
   | some rr =>
    rw [hq] at hR hf
    obtain ⟨hx,v',hv',hS2⟩:=hR
    cases hx
    cases hf
    obtain ⟨d0,d1,d2⟩:=hS2.at
    simp only [go_sem,d1,Tryz.f50,zB,zD,zC,reduceIte,reduceCtorEq,zA]
    exact ⟨_,rfl,Frz.two (hv'.frz _) (.same _)⟩
   | none =>
    rw [hq] at hR hf
    obtain ⟨hx,v',hS2⟩:=hR
    cases hx
    simp only [go_sem,k4,zB,zD,zC,reduceIte,reduceCtorEq,zA]
    exact zAi (s.sights.length+1 - (k+1)) (by omega) ⟨k+1,v',hkl,rfl,rfl,hS2,by rw [show s.sights.length+1 - (k+1)=r by omega];exact hf⟩
  ·intro x S2 hR
   exfalso
   revert hR
   split
   ·exact fun hh=>nomatch hh.1
   ·exact fun hh=>nomatch hh.1
 ·rw [show s.sights.length+1 - k=0 by omega] at hf
  cases hf
end Go.Av.Lx
end
section
set_option maxHeartbeats 2000000
namespace Go.Av.Lx
open Go Go.Av Go.Av.Tb Go.Av.Fx Go.Proofs
open Go.Lv (Sight Survey Sw Sv SightOk keepS zAk dropsS blamesS possS searchM shortM firstI dropM)
open Go.Fw (Sq ent Bd Mat)
theorem rWithout_pc (s:Survey) (hl:s.sights.length≤100) (w:List Int) (hw:okL w.length):PC Tryz.prog 54 [surA s,sl w] (.pure (surA (zAk s w))):=by
 refine PC.of_frz (AC.run (E_ok _) mix Tryz.func54 m54 rfl rfl rfl (zE rfl) ?_) (by simp [bndL,AV.bnd]) (by simp [bndL,AV.bnd])
 have bd24:∀ a,buildA T 24 [(0,.int .i64 a)]=some (.agg [.int .i64 a,.nilS]):=fun a=>rfl
 simp only [go_sem,boxA,zAa,bd24,zAd,AV.cells,AV.one,zL,zO,zJ,splice,zI,zH,and_self,zB,zD,zC,reduceIte,reduceCtorEq,zA]
 refine zAt (fun m ts' S' => ∃ k W nt tk,k≤s.sights.length∧m=s.sights.length - k∧ts'=[(1,sl w),(2,.ref 0 0),(4,.ref 1 0),(5,.ref 2 0),(6,.int .i64 (k:Nat))]∧S'=⟨[some (.cells (surC s)),some (.cells [.int .i64 0,.nilS]),some (.cells [.int .i64 s.stations,W])],nt,tk⟩∧Own (sgts (keepS s w k)) (keepS s w k).length W nt tk) s.sights.length ⟨0,.nilS,0,[],qH _,rfl,rfl,rfl,Own.nil _ _⟩ ?_
 rintro m ts' S' ⟨k,W,nt,tk,hk,rfl,rfl,rfl,ho⟩
 by_cases hkl:k<s.sights.length
 ·have k1:(k:Int)<s.sights.length:=by omega
  have k2:0≤(k:Int)∧(k:Int)<s.sights.length:=by omega
  have k3:k * 4+4≤(sgts s.sights).length:=by rw [zAz];omega
  have k4:IntKind.i64.wrap ((k:Int)+1)=(k+1:Nat):=wrap64 (by omega)
  have k5:=zCc s.sights k hkl
  have hks:=Lv.keep_succ s w k
  have hg:s.sights.getD k Lv.sightZ=s.sights[k]:=by rw [zG,zF hkl];rfl
  have hkl2:=Lv.keep_len s w k
  rw [hg] at hks
  generalize s.sights[k]=x at *
  simp only [go_sem,l54_0,zAa,k1,decide_true,zB,zD,zC,reduceIte,reduceCtorEq,zA]
  refine zCq w.length (fun j=>[(1,sl w),(2,.ref 0 0),(4,.ref 1 0),(5,.ref 2 0),(6,.int .i64 (k:Nat)),(7,.bool ((w.take j).contains (k:Int))),(8,.int .i64 (j:Nat))]) (fun _=>⟨[some (.cells (surC s)),some (.cells [.int .i64 0,.nilS]),some (.cells [.int .i64 s.stations,W])],nt,tk⟩) rfl rfl ?_
  intro j hj I hI
  by_cases hjl:j<w.length
  ·have j1:(j:Int)<w.length:=by omega
   have j2:0≤(j:Int)∧(j:Int)<w.length:=by omega
   have j4:IntKind.i64.wrap ((j:Int)+1)=(j+1:Nat):=wrap64 (by omega)
   have j5:w[j]? = some w[j]:=zF hjl
   have htk:(w.take (j+1)).contains (k:Int)=((w.take j).contains (k:Int) || decide (w[j]=(k:Int))):=by
    rw [qF hjl,Bool.eq_iff_iff,List.contains_iff_mem,List.mem_append,yR,List.contains_iff_mem,decide_eq_true_iff,yH]
    exact or_congr Iff.rfl eq_comm
   have hI:=hI hjl
   rw [htk] at hI
   cases hc:(w.take j).contains (k:Int)
   ·rw [hc,Bool.false_or] at hI
    simp only [go_sem,l54_1,zAa,j1,decide_true,j2,ints_get,j5,zW,zAf,j4,zB,zD,zC,reduceIte,reduceCtorEq,zA]
    exact hI
   ·rw [hc,Bool.true_or] at hI
    simp only [go_sem,l54_1,zAa,j1,decide_true,j4,zB,zD,zC,reduceIte,reduceCtorEq,zA]
    exact hI
  ·have j1:¬ (j:Int)<w.length:=by omega
   have ej:j=w.length:=by omega
   subst ej
   rw [qZ]
   simp only [go_sem,l54_1,zAa,j1,decide_false,zB,zD,zC,reduceIte,reduceCtorEq,zA]
   cases hc:w.contains (k:Int)
   ·rw [hc,if_neg (by decide)] at hks
    simp only [go_sem,zAh,qD,k2,k3,k5,zAf,and_self,zAa,zB,zD,zC,reduceIte,reduceCtorEq,zA]
    refine zDw (lx:=sgtC x) zDx ho (by rw [zAz];omega) rfl (by decide) rfl (by omega) fun W' tk' g => ?_
    obtain ⟨q1,q2⟩:=g.own.cells
    simp only [go_sem,q1,q2,zAd,zL,zO,zJ,splice,zI,zH,and_self,k4,zB,zD,zC,reduceIte,reduceCtorEq,zA]
    refine zAi (s.sights.length - (k+1)) (by omega) ⟨k+1,W',nt+1,tk',hkl,rfl,rfl,rfl, ?_⟩
    have:=g.own
    rw [zFf] at this
    rw [hks,qC,List.length_singleton]
    exact this
   ·rw [hc,if_pos rfl] at hks
    simp only [go_sem,zAh,zV,k4,zB,zD,zC,reduceIte,reduceCtorEq,zA]
    exact zAi (s.sights.length - (k+1)) (by omega) ⟨k+1,W,nt,tk,hkl,rfl,rfl,rfl,by rw [hks];exact ho⟩
 ·have k1:¬ (k:Int)<s.sights.length:=by omega
  have ek:k=s.sights.length:=by omega
  subst ek
  have hfz:=fun H=>ho.frz H
  rcases ho with ⟨rfl,_,_⟩ | ⟨q,rfl,_,_⟩
  ·simp only [go_sem,l54_0,zAa,k1,decide_false,zAd,AV.cells,AV.one,zL,zO,zJ,splice,zI,zH,and_self,Tryz.f54,zB,zD,zC,reduceIte,reduceCtorEq,zA]
   exact ⟨_,rfl,zDq (.same _) (hfz _)⟩
  ·simp only [go_sem,l54_0,zAa,k1,decide_false,zAd,AV.cells,AV.one,zL,zO,zJ,splice,zI,zH,and_self,Tryz.f54,zB,zD,zC,reduceIte,reduceCtorEq,zA]
   exact ⟨_,rfl,zDq (.same _) (hfz _)⟩
end Go.Av.Lx
end
section
set_option maxHeartbeats 2000000
namespace Go.Av.Lx
open Go Go.Av Go.Av.Tb Go.Av.Fx Go.Proofs
open Go.Lv (Sight Survey Sw Sv SightOk keepS zAk dropsS blamesS possS searchM shortM firstI dropM)
open Go.Fw (Sq ent Bd Mat)
end Go.Av.Lx
end
