/- Part 21 of the proof. -/
import Derived.Test.YtclmbbofpaecaaaGreatDoorVp20
set_option linter.all false
set_option linter.unusedVariables false
set_option linter.unusedSimpArgs false
set_option linter.unusedSectionVars false
open Bool renaming and_self → zJ, and_eq_true → zR, not_true → zV, not_false → qD, not_eq_true' → yO, or_eq_true → yR
open Int renaming toNat_natCast → qT, le_refl → yB
open List renaming getElem?_eq_getElem → zF, getD_eq_getElem?_getD → zG, set_cons_succ → zH, set_cons_zero → zI, all_cons → zL, getElem?_eq_none → zM, all_nil → zO, mem_cons_self → zP, mem_cons_of_mem → zS, getElem_mem → zX, getElem?_append_right → zY, length_cons → qB, length_append → qC, take_succ_eq_append_getElem → qF, getElem?_append_left → qJ, getElem?_map → qK, map_append → qR, getElem?_range → qS, flatMap_cons → qW, all_eq_true → qX, not_mem_nil → qY, take_length → qZ, getElem?_replicate → yD, nil_append → yF, mem_singleton → yH, mem_cons → yK, length_take → yL, headD_cons → yM, range_succ → yN, tail_cons → yT, map_cons → yV
open Nat renaming reduceLeDiff → zA, reduceEqDiff → zB, reduceAdd → zC, reduceBEq → zD, le_of_ble_eq_true → zE, le_refl → zN, lt_or_ge → zU, zero_le → qH, not_lt_zero → qO, mul_one → yP
open Option renaming map_some → zW
section
set_option maxHeartbeats 2000000
namespace Go.Av.Lx
open Go Go.Av Go.Av.Tb Go.Av.Fx Go.Proofs
open Go.Lv (Sight Survey Sw Sv SightOk Stp zBp walkRow rowStep rowOne)
open Go.Fw (Sq ent Bd Mat)
def posW (m i:Nat):Nat:=1+i * (m+1)
theorem posW_lt {m i a:Nat} (h:i<a):posW m i+(m+1)≤posW m a:=by
 unfold posW
 have:(i+1) * (m+1)≤a * (m+1):=Nat.mul_le_mul_right _ h
 rw [Nat.add_mul] at this
 omega
theorem rowOne_len (b r:List Int) (u v:Nat) (m:Int):(rowOne b r u v m).length=r.length:=by
 unfold rowOne;split
 ·rw [List.length_set]
 ·rfl
theorem rowStep_len (b r:List Int) (x:Sight):(rowStep b r x).length=r.length:=by unfold rowStep;rw [rowOne_len,rowOne_len]
theorem zFd (b:List Int):∀ (l:List Sight) (r:List Int),(l.foldl (rowStep b) r).length=r.length
 | [],r=>rfl
 | x :: l,r=>by rw [List.foldl_cons,zFd b l,rowStep_len]
structure WalkH (Hh:List (Option Blk)) (s:Survey) (rows:Nat→List Int) (m a:Nat) (r:List Int) (L:Nat):Prop where
 c0:cellsAt Hh 0=some [.int .i64 (Lv.num s),.slice (sgts s.sights) s.sights.length .unk]
 rows:∀ i,i<a→cellsAt Hh (posW m i)=some (ints (rows i))
 cur:cellsAt Hh (posW m a)=some (ints r)
 len:Hh.length=L
theorem WalkH.app {Hh:List (Option Blk)} {s:Survey} {rows:Nat→List Int} {m a:Nat} {r:List Int} {L:Nat} (h:WalkH Hh s rows m a r L) (y:Option Blk):WalkH (Hh ++ [y]) s rows m a r (L+1):=
 ⟨zAp h.c0 _,fun i hi=>zAp (h.rows i hi) _,zAp h.cur _,by simp [h.len]⟩
theorem WalkH.put {Hh:List (Option Blk)} {s:Survey} {rows:Nat→List Int} {m a:Nat} {r:List Int} {L:Nat} (h:WalkH Hh s rows m a r L) (r':List Int):WalkH (setH Hh (posW m a) (.cells (ints r'))) s rows m a r' L:=by
 have hl:=zEe h.cur
 refine ⟨?_,fun i hi => ?_,cells_self hl,by rw [setH_len hl];exact h.len⟩
 ·rw [zBv hl (by unfold posW;omega)];exact h.c0
 ·have:=posW_lt (m:=m) hi
  rw [zBv hl (by omega)];exact h.rows i hi
structure WalkM (n:Nat) (W:Mat):Prop where
 sq:Sq n W
 low:∀ i v,i<n→v<n → -far≤ent W i v
 high:∀ i v,i<n→v<n→ent W i v≤1000000
theorem walk_bd {b:List Int} {n:Nat} (hb:∀ v,v<n → -far≤b.getD v 0∧b.getD v 0≤1000000) {r:List Int} (hr:∀ v,v<r.length → -far≤r.getD v 0∧r.getD v 0≤1001000) (hl:r.length=n) {x:Sight} {k:Int} (hx:SightOk k x) (hk:k.toNat=n) :
  ∀ v,v<(rowStep b r x).length → -far≤(rowStep b r x).getD v 0∧(rowStep b r x).getD v 0≤1001000:=by
 have h1:=hx.frm;have h2:=hx.to;have h3:=hx.rise
 have one:∀ (r:List Int) (u v:Nat) (m:Int),u<n → -1000≤m→m≤1000→r.length=n→(∀ v,v<r.length → -far≤r.getD v 0∧r.getD v 0≤1001000)→v<n → ∀ w,w<(rowOne b r u v m).length → -far≤(rowOne b r u v m).getD w 0∧(rowOne b r u v m).getD w 0≤1001000:=by
  intro r u v m hu m1 m2 hl hr hv w hw
  unfold rowOne at hw ⊢
  split at hw
  ·rename_i g
   rw [if_pos g,Lv.getD_set (by omega)]
   rw [List.length_set] at hw
   split
   ·have a:=hr v (by omega)
    have c:=hb u hu
    omega
   ·exact hr w hw
  ·rename_i g
   rw [if_neg g];exact hr w hw
 unfold rowStep
 refine one _ _ _ _ (by omega) (by omega) (by omega) (by rw [rowOne_len];exact hl) (one _ _ _ _ (by omega) (by omega) (by omega) hl hr (by omega)) (by omega)
theorem walks_pc (s:Survey) (h:Sw s) (hl:s.sights.length≤100) {W:Mat} (hW:WalkM (Lv.num s) W):PC Tryz.prog 147 [surA s,wS W] (.pure (wS ((List.range (Lv.num s)).map fun a=>walkRow s (W.getD a [])))):=by
 refine PC.of_frz (AC.run (E_ok _) mix Tryz.func147 m147 rfl rfl rfl (zE rfl) ?_) (by simp only [bndL,wS_bnd];simp [AV.bnd,bndL]) (wS_bnd _)
 obtain ⟨n,hn⟩:∃ n,n=Lv.num s:=⟨_,rfl⟩
 have hst:s.stations=(n:Int):=by have:=h.st;rw [hn];show _=((s.stations.toNat:Nat):Int);omega
 have hn2:2≤n∧n≤8:=by have:=h.st;omega
 rw [← hn] at hW ⊢
 obtain ⟨m,hm⟩:∃ m,s.sights.length=m:=⟨_,rfl⟩
 simp only [go_sem,boxA,hst,zB,zD,zC,reduceIte,reduceCtorEq,zA]
 refine zAt (fun q ts' S' => ∃ a V nt tk Hh,a≤n∧q=n - a∧ts'=[(1,wS W),(2,.ref 0 0),(5,V),(12,.int .i64 n),(13,.int .i64 (a:Nat))]∧S'=⟨Hh,nt,tk⟩∧cellsAt Hh 0=some [.int .i64 n,.slice (sgts s.sights) s.sights.length .unk]∧Hh.length=posW m a∧(∀ i,i<a→cellsAt Hh (posW m i)=some (ints (walkRow s (W.getD i []))))∧Own (rowsF (posW m) a n) a V nt tk) n ⟨0,.nilS,0,[],_,qH _,rfl,rfl,rfl,rfl,by simp [posW],fun i hi=>absurd hi (qO _),Own.nil _ _⟩ ?_
 rintro q ts' S' ⟨a,V,nt,tk,Hh,ha,rfl,rfl,rfl,c0,hlen,hrows,ho⟩
 by_cases hlt:a<n
 rotate_left
 ·have h1:¬ (a:Int)<n:=by omega
  have e:a=n:=by omega
  subst e
  simp only [go_sem,l147_0,h1,decide_false,Tryz.f147,zB,zD,zC,reduceIte,reduceCtorEq,zA]
  have hV:∃ t,V=.slice (rowsF (posW m) a a) a t:=by
   rcases ho with ⟨_,_,h0⟩ | ⟨k,hk,_⟩
   ·omega
   ·exact ⟨_,hk⟩
  obtain ⟨t,rfl⟩:=hV
  refine ⟨_,rfl,rowsF_frz (fun i hi => ?_) hrows t⟩
  unfold walkRow
  rw [zFd];simp [← hn]
 have h1:(a:Int)<n:=by omega
 have h4:IntKind.i64.wrap ((a:Int)+1)=(a+1:Nat):=wrap64 (by omega)
 have lm:(rowsF (posW m) a n).length=a * 1:=by simp
 simp only [go_sem,l147_0,h1,decide_true,c0,zB,zD,zC,reduceIte,reduceCtorEq,zA]
 refine ca n150 (repeat_pc (-1099511627776) n (by omega) (by omega)) (SubL.cons (Sub.unk _ 1 .exact) (SubL.refl _)) ?_
 simp only [go_sem,hlen,zAa,zB,zD,zC,reduceIte,reduceCtorEq,zA]
 refine zDw (lx:=[.sref (posW m a) 0 n n]) rowRows ho lm rfl (by decide) rfl (by omega) fun V' tk' g => ?_
 have gt:=g.tok
 have go:=g.own
 rw [rowsF_snoc] at gt go
 subst gt
 have w0:WalkH (Hh ++ [some (.cells (ints (List.replicate n (-1099511627776))))]) s (fun i=>walkRow s (W.getD i [])) m a (List.replicate n (-far)) (posW m a+1):=
  ⟨by rw [← hn];exact zAp c0 _,fun i hi=>zAp (hrows i hi) _,by rw [← hlen];exact zAg _ _,by simp [hlen]⟩
 generalize Hh ++ [some (.cells (ints (List.replicate n (-1099511627776))))]=Hi at *
 have d0:=w0.c0
 rw [← hn] at d0
 simp only [go_sem,d0,zAa,zB,zD,zC,reduceIte,reduceCtorEq,zA]
 clear hrows c0 hlen ho g
 have hwa:(W.map sl)[a]? = some (sl (W.getD a [])):=zDt hW.sq hlt
 have hbl:(W.getD a []).length=n:=hW.sq.getD hlt
 have hWl:W.length=n:=hW.sq.1
 have hbb:∀ v,v<n → -far≤(W.getD a []).getD v 0∧(W.getD a []).getD v 0≤1000000:=fun v hv=>⟨hW.low a v hlt hv,hW.high a v hlt hv⟩
 obtain ⟨b,hb⟩:∃ b,W.getD a []=b:=⟨_,rfl⟩
 have hrowEq:walkRow s b=s.sights.foldl (rowStep b) (List.replicate n (-far)):=by unfold walkRow;rw [hn];rfl
 rw [hb] at hwa hbl hbb
 have hrb:∀ j,j≤m → ∀ v,v<((s.sights.take j).foldl (rowStep b) (List.replicate n (-far))).length → -far≤((s.sights.take j).foldl (rowStep b) (List.replicate n (-far))).getD v 0∧((s.sights.take j).foldl (rowStep b) (List.replicate n (-far))).getD v 0≤1001000:=by
  intro j
  induction j with
  | zero =>
   intro _ v hv
   rw [List.take_zero,List.foldl_nil] at hv ⊢
   rw [List.length_replicate] at hv
   have:(List.replicate n (-far)).getD v 0 = -far:=by rw [zG,yD,if_pos hv];rfl
   rw [this]
   have:far=1099511627776:=rfl
   omega
  | succ j ih =>
   intro hj
   rw [zDe _ _ _ _ (by omega)]
   exact walk_bd hbb (ih (by omega)) (by rw [zFd];simp) (h.sights _ (zX (by omega))) hn.symm
 refine wc_forE m (fun j=>[(1,wS W),(2,.ref 0 0),(5,.slice (rowsF (posW m) (a+1) n) (a+1) (.tok nt)),(12,.int .i64 n),(13,.int .i64 (a:Nat)),(6,.int .i64 (a:Nat)),(24,.slice (sgts s.sights) s.sights.length .unk),(25,.int .i64 s.sights.length),(26,.int .i64 (j:Nat))])
  (fun j S => ∃ Hh,S=⟨Hh,nt+1,tk'⟩∧WalkH Hh s (fun i=>walkRow s (W.getD i [])) m a ((s.sights.take j).foldl (rowStep b) (List.replicate n (-far))) (posW m a+1+j)) rfl ⟨_,rfl,w0⟩ ?_
 rintro j hj S ⟨Hj,rfl,wj⟩ I hI
 by_cases hlt2:j<m
 rotate_left
 ·have k1:¬ (j:Int)<s.sights.length:=by omega
  have ej:j=m:=by omega
  subst ej
  simp only [go_sem,l147_1,k1,decide_false,h4,zB,zD,zC,reduceIte,reduceCtorEq,zA]
  refine zAi (n - (a+1)) (by omega) ⟨a+1,_,nt+1,tk',Hj,hlt,rfl,rfl,rfl,by rw [hn];exact wj.c0,by rw [wj.len];unfold posW;rw [Nat.add_mul];omega,fun i hi => ?_,go⟩
  by_cases e:i=a
  ·subst e
   rw [hb,hrowEq]
   have:=wj.cur
   rw [← hm,qZ] at this
   rw [← hm];exact this
  ·exact wj.rows i (by omega)
 have k1:(j:Int)<s.sights.length:=by omega
 have k2:0≤(j:Int)∧(j:Int)<s.sights.length:=by omega
 have k3:j * 4+4≤(sgts s.sights).length:=by rw [zAz];omega
 have h6:IntKind.i64.wrap ((j:Int)+1)=(j+1:Nat):=wrap64 (by omega)
 have k5:=zCc s.sights j (by omega)
 have hx:=h.sights _ (zX (by omega:j<s.sights.length))
 have hnext:(s.sights.take (j+1)).foldl (rowStep b) (List.replicate n (-far))=rowStep b ((s.sights.take j).foldl (rowStep b) (List.replicate n (-far))) s.sights[j]:=zDe _ _ _ _ (by omega)
 have hrbj:=hrb j (by omega)
 have hrl:((s.sights.take j).foldl (rowStep b) (List.replicate n (-far))).length=n:=by rw [zFd];simp
 have hI:=hI hlt2
 generalize (s.sights.take j).foldl (rowStep b) (List.replicate n (-far))=r at *
 generalize s.sights[j]=x at *
 obtain ⟨f,t,ρ,o⟩:=x
 have x1:=hx.frm;have x2:=hx.to;have x3:=hx.rise
 simp only at x1 x2 x3
 obtain ⟨f,rfl⟩:∃ f':Nat,f=f':=⟨f.toNat,by omega⟩
 obtain ⟨t,rfl⟩:∃ t':Nat,t=t':=⟨t.toNat,by omega⟩
 have hf:f<n:=by omega
 have ht:t<n:=by omega
 have hlen:=wj.len
 have w1:=wj.app (some (.cells [.int .i64 (f:Nat),.int .i64 (t:Nat),.int .i64 ρ,.int .i64 o]))
 have cx:=fun l=>zAg Hj l
 have sx:=fun x B=>zAs Hj x B
 have hpos:posW m a<Hj.length:=zEe wj.cur
 have xw:0≤(a:Int)∧(a:Int)<(W.length:Int):=by omega
 have xr:0≤(a:Int)∧(a:Int)<(a+1:Nat):=by omega
 have xf:0≤(f:Int)∧(f:Int)<(b.length:Int):=by omega
 have xt:0≤(t:Int)∧(t:Int)<(b.length:Int):=by omega
 have xfn:0≤(f:Int)∧(f:Int)<(n:Int):=by omega
 have xtn:0≤(t:Int)∧(t:Int)<(n:Int):=by omega
 have gbf:b[f]? = some (b.getD f 0):=by rw [zG,zF (by omega)];rfl
 have gbt:b[t]? = some (b.getD t 0):=by rw [zG,zF (by omega)];rfl
 have rg:(rowsF (posW m) (a+1) n)[a]? = some (.sref (posW m a) 0 n n):=rowsF_get (by omega)
 have bf:=hbb f hf
 have bt:=hbb t ht
 have far_eq:far=1099511627776:=rfl
 have w1':IntKind.i64.wrap (b.getD f 0+ρ)=b.getD f 0+ρ:=wrap64 (by omega)
 have w2:IntKind.i64.wrap (b.getD t 0 - ρ)=b.getD t 0 - ρ:=wrap64 (by omega)
 have kt:t+1≤n:=ht
 have kf:f+1≤n:=hf
 simp only [go_sem,l147_1,k1,decide_true,k2,k3,k5,cx,sx,zAd,AV.cells,AV.one,zL,zO,zJ,splice,zI,zH,and_self,zAf,yP,zB,zD,zC,reduceIte,reduceCtorEq,zA]
 by_cases g1:b.getD f 0 > -far
 ·have g1':b.getD f 0 > -1099511627776:=g1
  have hone:rowOne b r f t ρ=r.set t (max (r.getD t 0) (b.getD f 0+ρ)):=if_pos g1
  have hmx1:(if b.getD f 0+ρ > r.getD t 0 then b.getD f 0+ρ else r.getD t 0)=max (r.getD t 0) (b.getD f 0+ρ):=by split <;> omega
  have hw2:=w1.put (r.set t (max (r.getD t 0) (b.getD f 0+ρ)))
  have gt1:r[t]? = some (r.getD t 0):=by rw [zG,zF (by omega)];rfl
  have cu1:=w1.cur
  simp only [go_sem,hwa,xw,xf,xt,xfn,xtn,gbf,ints_get,zW,cx,xr,rg,cu1,gt1,g1',decide_true,w1',zAa,maxsA,hmx1,kt,zCr,hrl,zEc,zAd,AV.cells,AV.one,zL,zO,zJ,splice,zI,zH,and_self,zAf,yP,zB,zD,zC,reduceIte,reduceCtorEq,zA]
  have cx2:cellsAt (setH (Hj ++ [some (.cells [.int .i64 (f:Nat),.int .i64 (t:Nat),.int .i64 ρ,.int .i64 o])]) (posW m a) (.cells (ints (r.set t (max (r.getD t 0) (b.getD f 0+ρ)))))) Hj.length=some [.int .i64 (f:Nat),.int .i64 (t:Nat),.int .i64 ρ,.int .i64 o]:=by
   rw [zBv (by simp;omega) (by omega)];exact cx _
  have hrl2:(r.set t (max (r.getD t 0) (b.getD f 0+ρ))).length=n:=by rw [List.length_set];exact hrl
  generalize setH (Hj ++ [some (.cells [.int .i64 (f:Nat),.int .i64 (t:Nat),.int .i64 ρ,.int .i64 o])]) (posW m a) (.cells (ints (r.set t (max (r.getD t 0) (b.getD f 0+ρ)))))=H2 at *
  generalize r.set t (max (r.getD t 0) (b.getD f 0+ρ))=r2 at *
  by_cases g2:b.getD t 0 > -far
  ·have g2':b.getD t 0 > -1099511627776:=g2
   have hmx:(if b.getD t 0 - ρ > (r2).getD f 0 then b.getD t 0 - ρ else (r2).getD f 0)=max ((r2).getD f 0) (b.getD t 0 + -ρ):=by split <;> omega
   have hw3:=hw2.put ((r2).set f (max ((r2).getD f 0) (b.getD t 0 + -ρ)))
   have hstep:rowStep b r ⟨f,t,ρ,o⟩=(r2).set f (max ((r2).getD f 0) (b.getD t 0 + -ρ)):=by
    show rowOne b (rowOne b r f t ρ) t f (-ρ)=_
    rw [hone]
    exact if_pos g2
   have gf:(r2)[f]? = some ((r2).getD f 0):=by rw [zG,zF (by omega)];rfl
   have cu:=hw2.cur
   have kf:f+1≤n:=hf
   simp only [go_sem,hwa,xw,xf,xt,xfn,xtn,gbt,ints_get,zW,cx2,xr,rg,cu,gf,g2',decide_true,w2,zAa,maxsA,hmx,kf,zCr,hrl2,zEc,h6,zAd,AV.cells,AV.one,zL,zO,zJ,splice,zI,zH,and_self,zAf,yP,zB,zD,zC,reduceIte,reduceCtorEq,zA]
   exact hI _ ⟨_,rfl,by rw [hnext,hstep];exact hw3⟩
  ·have g2':¬ b.getD t 0 > -1099511627776:=g2
   have hstep:rowStep b r ⟨f,t,ρ,o⟩=r2:=by
    show rowOne b (rowOne b r f t ρ) t f (-ρ)=_
    rw [hone]
    exact if_neg g2
   simp only [go_sem,hwa,xw,xf,xt,xfn,xtn,gbt,ints_get,zW,cx2,g2',decide_false,h6,zAd,AV.cells,AV.one,zL,zO,zJ,splice,zI,zH,and_self,zAf,yP,zB,zD,zC,reduceIte,reduceCtorEq,zA]
   exact hI _ ⟨_,rfl,by rw [hnext,hstep];exact hw2⟩
 ·have g1':¬ b.getD f 0 > -1099511627776:=g1
  have hone:rowOne b r f t ρ=r:=if_neg g1
  have hrl2:=hrl
  simp only [go_sem,hwa,xw,xf,xt,gbf,ints_get,zW,cx,g1',decide_false,zAd,AV.cells,AV.one,zL,zO,zJ,splice,zI,zH,and_self,zAf,yP,zB,zD,zC,reduceIte,reduceCtorEq,zA]
  by_cases g2:b.getD t 0 > -far
  ·have g2':b.getD t 0 > -1099511627776:=g2
   have hmx:(if b.getD t 0 - ρ > (r).getD f 0 then b.getD t 0 - ρ else (r).getD f 0)=max ((r).getD f 0) (b.getD t 0 + -ρ):=by split <;> omega
   have hw3:=w1.put ((r).set f (max ((r).getD f 0) (b.getD t 0 + -ρ)))
   have hstep:rowStep b r ⟨f,t,ρ,o⟩=(r).set f (max ((r).getD f 0) (b.getD t 0 + -ρ)):=by
    show rowOne b (rowOne b r f t ρ) t f (-ρ)=_
    rw [hone]
    exact if_pos g2
   have gf:(r)[f]? = some ((r).getD f 0):=by rw [zG,zF (by omega)];rfl
   have cu:=w1.cur
   have kf:f+1≤n:=hf
   simp only [go_sem,hwa,xw,xf,xt,xfn,xtn,gbt,ints_get,zW,cx,xr,rg,cu,gf,g2',decide_true,w2,zAa,maxsA,hmx,kf,zCr,hrl2,zEc,h6,zAd,AV.cells,AV.one,zL,zO,zJ,splice,zI,zH,and_self,zAf,yP,zB,zD,zC,reduceIte,reduceCtorEq,zA]
   exact hI _ ⟨_,rfl,by rw [hnext,hstep];exact hw3⟩
  ·have g2':¬ b.getD t 0 > -1099511627776:=g2
   have hstep:rowStep b r ⟨f,t,ρ,o⟩=r:=by
    show rowOne b (rowOne b r f t ρ) t f (-ρ)=_
    rw [hone]
    exact if_neg g2
   simp only [go_sem,hwa,xw,xf,xt,xfn,xtn,gbt,ints_get,zW,cx,g2',decide_false,h6,zAd,AV.cells,AV.one,zL,zO,zJ,splice,zI,zH,and_self,zAf,yP,zB,zD,zC,reduceIte,reduceCtorEq,zA]
   exact hI _ ⟨_,rfl,by rw [hnext,hstep];exact w1⟩
end Go.Av.Lx
end
section
set_option maxHeartbeats 2000000
namespace Go.Av.Lx
open Go Go.Av Go.Av.Tb Go.Av.Fx Go.Proofs
open Go.Lv (Sight Survey Sw Sv SightOk Stp zBp walkRow rowStep rowOne walkN better zDk errF redF ErrQ)
open Go.Fw (Sq ent Bd Mat)
def walkW (s:Survey) (i:Nat):Mat:=(List.range (Lv.num s)).map (walkN s i)
theorem walkW_get (s:Survey) (i:Nat) {a:Nat} (ha:a<Lv.num s):(walkW s i).getD a []=walkN s i a:=by
 unfold walkW
 rw [zG,qK,qS ha];rfl
theorem walkW_sq {s:Survey} (h:Sw s) {i:Nat} (hi:i≤100):Sq (Lv.num s) (walkW s i):=by
 refine ⟨by simp [walkW],fun a r hr => ?_⟩
 unfold walkW at hr
 rw [qK] at hr
 rcases zU a (Lv.num s) with ha | ha
 ·rw [qS ha] at hr
  cases hr
  exact (Lv.walkN_row h ha i hi).len
 ·rw [zM (by simpa using ha)] at hr;cases hr
theorem walk_val {s:Survey} (h:Sw s) {i a v:Nat} (hi:i≤100) (ha:a<Lv.num s) (hv:v<Lv.num s):-far≤(walkN s i a).getD v 0∧((walkN s i a).getD v 0 > -far → -1000 * (i:Int)≤(walkN s i a).getD v 0∧(walkN s i a).getD v 0≤1000 * i):=by
 have hr:=Lv.walkN_row h ha i hi
 refine ⟨hr.low v hv,fun g => ?_⟩
 obtain ⟨l,hl,e⟩:=hr.met v hv g
 have:=Lv.rise_bd h hl.ok
 rw [hl.len,e] at this
 exact this
theorem walkW_m {s:Survey} (h:Sw s) {i:Nat} (hi:i≤100):WalkM (Lv.num s) (walkW s i):=by
 have key:∀ a v,a<Lv.num s→v<Lv.num s → -far≤ent (walkW s i) a v∧ent (walkW s i) a v≤1000000:=fun a v ha hv=>by
  have:=walk_val h hi ha hv
  show -far≤((walkW s i).getD a []).getD v 0∧((walkW s i).getD a []).getD v 0≤1000000
  rw [walkW_get s i ha]
  have hf:far=1099511627776:=rfl
  by_cases g:(walkN s i a).getD v 0 > -far
  ·have:=this.2 g;omega
  ·omega
 exact ⟨walkW_sq h hi,fun a v ha hv=>(key a v ha hv).1,fun a v ha hv=>(key a v ha hv).2⟩
theorem walkW_succ (s:Survey) (i:Nat):((List.range (Lv.num s)).map fun a=>walkRow s ((walkW s i).getD a []))=walkW s (i+1):=by
 show _=(List.range (Lv.num s)).map (walkN s (i+1))
 refine List.map_congr_left fun a ha => ?_
 rw [walkW_get s i (List.mem_range.1 ha)];rfl
abbrev frA (o:Int × Int):AV:=.agg [.int .i64 o.1,.int .i64 o.2]
theorem mul_bd {r b:Int} (hr:-8000≤r∧r≤8000) (hb:1≤b∧b≤8):-64000≤r * b∧r * b≤64000:=by
 have:b=1∨b=2∨b=3∨b=4∨b=5∨b=6∨b=7∨b=8:=by omega
 rcases this with rfl | rfl | rfl | rfl | rfl | rfl | rfl | rfl <;> omega
@[go_sem] theorem bd_fr (a b:Int):buildA T 49 [(0,.int .i64 a),(1,.int .i64 b)]=some (.agg [.int .i64 a,.int .i64 b]):=rfl
@[go_sem] theorem bd_fr1 (b:Int):buildA T 49 [(1,.int .i64 b)]=some (.agg [.int .i64 0,.int .i64 b]):=rfl
@[go_sem] theorem bd_fr0:buildA T 49 []=some (.agg [.int .i64 0,.int .i64 0]):=rfl
theorem least_err_pc (s:Survey) (h:Sw s) (hl:s.sights.length≤100):PC Tryz.prog 90 [surA s] (.pure (frA (errF s))):=by
 refine PC.of_empty (AC.run (E_ok _) mix Tryz.func90 m90 rfl rfl rfl (zE rfl) ?_) (by simp [bndL,AV.bnd]) rfl
 obtain ⟨n,hn⟩:∃ n,n=Lv.num s:=⟨_,rfl⟩
 have hst:s.stations=(n:Int):=by have:=h.st;rw [hn];show _=((s.stations.toNat:Nat):Int);omega
 have hn2:2≤n∧n≤8:=by have:=h.st;omega
 obtain ⟨oL,hoL⟩:∃ oL:Nat→Int × Int,oL=fun i=>(List.range i).foldl (fun o i=>zDk s i o) (0,1):=⟨_,rfl⟩
 have oL0:oL 0=(0,1):=by rw [hoL];rfl
 have oLs:∀ i,oL (i+1)=zDk s i (oL i):=fun i=>by rw [hoL];exact Fw.fold_succ _ _ _
 have oLn:oL n=Lv.leastF s:=by rw [hoL,hn];rfl
 clear hoL
 have start:ErrQ s (fun _ _=>False) (oL 0):=by
  rw [oL0]
  exact ⟨⟨by show (0:Int)<1;decide,by show (1:Int)≤((Lv.num s:Nat):Int);omega⟩,⟨yB _,by show (0:Int)≤1000 * 1;decide⟩,fun l a _ _ _ _ _ hf=>hf.elim,.inl rfl⟩
 simp only [go_sem,boxA,zAd,AV.cells,AV.one,zL,zO,zJ,splice,zI,zH,and_self,zB,zD,zC,reduceIte,reduceCtorEq,zA]
 refine cp n146 (still_pc s h) (SubL.refl _) ?_
 simp only [go_sem,hst,zB,zD,zC,reduceIte,reduceCtorEq,zA]
 rw [show (List.range (Lv.num s)).map (zBp (Lv.num s))=walkW s 0 from rfl]
 refine zBd n (fun i => ∃ M,ErrQ s M (oL i)) (fun i=>[(1,.ref 0 0),(2,.ref 1 0),(3,.ref 2 0),(4,wS (walkW s i)),(13,.int .i64 n),(14,.int .i64 (i:Nat))]) (fun i=>⟨[some (.cells [.int .i64 n,.slice (sgts s.sights) s.sights.length .unk]),some (.cells [.int .i64 0,.int .i64 0]),some (.cells [.int .i64 (oL i).1,.int .i64 (oL i).2])],0,[]⟩) ⟨_,start⟩ rfl (by rw [oL0]) ?_
 rintro i hi ⟨M,hM⟩ I hI
 by_cases hlt:i<n
 rotate_left
 ·have h1:¬ (i:Int)<n:=by omega
  have e:i=n:=by omega
  subst e
  rw [oLn] at hM ⊢
  unfold errF redF
  have d1:=hM.den
  have d2:=hM.num0
  generalize Lv.leastF s=o at *
  obtain ⟨p,q⟩:=o
  simp only at d1 d2
  obtain ⟨p,rfl⟩:∃ p':Nat,p=p':=⟨p.toNat,by omega⟩
  obtain ⟨q,rfl⟩:∃ q':Nat,q=q':=⟨q.toNat,by omega⟩
  simp only [qT]
  have hgp:0<Nat.gcd p q:=Nat.gcd_pos_of_pos_right _ (by omega)
  have q1:=quo_nat (x:=p) hgp (by omega)
  have q2:=quo_nat (x:=q) hgp (by omega)
  simp only [go_sem,l90_0,h1,decide_false,zB,zD,zC,reduceIte,reduceCtorEq,zA]
  refine cp n148 (divisor_pc p q) (SubL.refl _) ?_
  simp only [go_sem,q1,q2,zAd,AV.cells,AV.one,zL,zO,zJ,splice,zI,zH,and_self,Tryz.f90,zB,zD,zC,reduceIte,reduceCtorEq,zA]
  all_goals rfl
 have h1:(i:Int)<n:=by omega
 have h4:IntKind.i64.wrap ((i:Int)+1)=(i+1:Nat):=wrap64 (by omega)
 have hw:=walks_pc s h hl (walkW_m h (i:=i) (by omega))
 rw [walkW_succ] at hw
 simp only [surA,surC,hst] at hw
 have hI:=hI hlt
 rw [oLs] at hI
 simp only [go_sem,l90_0,h1,decide_true,zB,zD,zC,reduceIte,reduceCtorEq,zA]
 refine cp n147 hw (SubL.refl _) ?_
 simp only [go_sem,zB,zD,zC,reduceIte,reduceCtorEq,zA]
 obtain ⟨oI,hoI⟩:∃ oI:Nat→Int × Int,oI=fun k=>(List.range k).foldl (fun o a=>better o ((walkN s (i+1) a).getD a 0) (i+1:Nat)) (oL i):=⟨_,rfl⟩
 have oI0:oI 0=oL i:=by rw [hoI];rfl
 have oIs:∀ k,oI (k+1)=better (oI k) ((walkN s (i+1) k).getD k 0) (i+1:Nat):=fun k=>by rw [hoI];exact Fw.fold_succ _ _ _
 have oIn:oI n=zDk s i (oL i):=by rw [hoI,hn];rfl
 clear hoI
 refine zBd n (fun k => ∃ M,ErrQ s M (oI k)) (fun k=>[(1,.ref 0 0),(2,.ref 1 0),(3,.ref 2 0),(4,wS (walkW s (i+1))),(13,.int .i64 n),(14,.int .i64 (i:Nat)),(5,.int .i64 (i:Nat)),(21,.int .i64 n),(22,.int .i64 (k:Nat))]) (fun k=>⟨[some (.cells [.int .i64 n,.slice (sgts s.sights) s.sights.length .unk]),some (.cells [.int .i64 0,.int .i64 0]),some (.cells [.int .i64 (oI k).1,.int .i64 (oI k).2])],0,[]⟩) ⟨M,by rw [oI0];exact hM⟩ rfl (by rw [oI0]) ?_
 rintro k hk ⟨M2,hM2⟩ I2 hI2
 by_cases hlt2:k<n
 rotate_left
 ·have k1:¬ (k:Int)<n:=by omega
  have e:k=n:=by omega
  subst e
  rw [oIn] at hM2 ⊢
  simp only [go_sem,l90_1,k1,decide_false,h4,zB,zD,zC,reduceIte,reduceCtorEq,zA]
  exact hI ⟨M2,hM2⟩
 have k1:(k:Int)<n:=by omega
 have k4:IntKind.i64.wrap ((k:Int)+1)=(k+1:Nat):=wrap64 (by omega)
 have hsq:=walkW_sq h (i:=i+1) (by omega)
 rw [← hn] at hsq
 have hwk:=zDt hsq hlt2
 have hrl:=hsq.getD hlt2
 rw [walkW_get s (i+1) (by omega)] at hwk hrl
 obtain ⟨v1,v2⟩:=walk_val h (i:=i+1) (a:=k) (v:=k) (by omega) (by omega) (by omega)
 have hb:=Lv.better_ok h hM2 (i:=i) (a:=k) (by omega) (by omega)
 have hI2:=hI2 hlt2 ⟨_,by rw [oIs];exact hb⟩
 rw [oIs] at hI2
 have gk:(walkN s (i+1) k)[k]? = some ((walkN s (i+1) k).getD k 0):=by rw [zG,zF (by omega)];rfl
 have xa:0≤(k:Int)∧(k:Int)<((walkW s (i+1)).length:Int):=by have:=hsq.1;omega
 have xb:0≤(k:Int)∧(k:Int)<((walkN s (i+1) k).length:Int):=by omega
 have d1:=hM2.den
 have d2:=hM2.num0
 clear hb hM2 hM start
 generalize oI k=o at *
 generalize (walkN s (i+1) k).getD k 0=v at *
 obtain ⟨p,q⟩:=o
 simp only at d1 d2
 simp only [go_sem,l90_1,k1,decide_true,xa,hwk,xb,ints_get,gk,zW,zAf,and_self,zB,zD,zC,reduceIte,reduceCtorEq,zA]
 by_cases g1:v > -far
 ·have g1':v > -1099511627776:=g1
  have v3:=v2 g1
  have m1:=mul_bd (r:=v) (b:=q) (by omega) (by omega)
  have m2:=mul_bd (r:=p) (b:=(i+1:Nat)) (by omega) (by omega)
  have w1:IntKind.i64.wrap (v * q)=v * q:=wrap64 (by omega)
  have w2:IntKind.i64.wrap (p * ((i+1:Nat):Int))=p * ((i+1:Nat):Int):=wrap64 (by omega)
  by_cases g2:v * q > p * ((i+1:Nat):Int)
  ·have hbt:better (p,q) v (i+1:Nat)=(v,((i+1:Nat):Int)):=if_pos ⟨g1,g2⟩
   rw [hbt] at hI2
   simp only [go_sem,g1',g2,decide_true,h4,w1,w2,zAd,AV.cells,AV.one,zL,zO,zJ,splice,zI,zH,and_self,k4,zB,zD,zC,reduceIte,reduceCtorEq,zA]
   exact hI2
  ·have hbt:better (p,q) v (i+1:Nat)=(p,q):=if_neg fun hh=>g2 hh.2
   rw [hbt] at hI2
   simp only [go_sem,g1',g2,decide_true,decide_false,h4,w1,w2,k4,zB,zD,zC,reduceIte,reduceCtorEq,zA]
   exact hI2
 ·have g1':¬ v > -1099511627776:=g1
  have hbt:better (p,q) v (i+1:Nat)=(p,q):=if_neg fun hh=>g1 hh.1
  rw [hbt] at hI2
  simp only [go_sem,g1',decide_false,h4,k4,zB,zD,zC,reduceIte,reduceCtorEq,zA]
  exact hI2
end Go.Av.Lx
end
section
set_option maxHeartbeats 2000000
namespace Go.Av.Lx
open Go Go.Av Go.Av.Tb Go.Av.Fx Go.Proofs
open Go.Lv (Sight Survey Sw Sv SightOk Stp errF evenB RedP)
open Go.Fw (Sq ent Bd Mat)
theorem kA_bnd (s:Survey) (V:Mat):(kA s V).bnd 0 0=true:=by simp [AV.bnd,bndL]
theorem known_even_pc (s:Survey) (h:Sw s) (he:s.sights=[]) (ds:List Bound) (hd:ds.length≤1000) (hok:∀ x∈ds,BOk (Lv.num s) x) {V:Mat} (hV:kn s ds=some V) (hsq:Sq (Lv.num s) V):PC Tryz.prog 94 [surA s,.slice (bnds ds) ds.length .unk] (.pure (kA s V)):=by
 refine PC.of_frz (known_run s h (by rw [he];simp) ds hd hok _ [] 0 [] (.inr ⟨he,rfl⟩) _ ?_ ?_) (by simp [bndL,AV.bnd]) (kA_bnd s V)
 ·intro h0
  rw [kn_eq h,hV] at h0;cases h0
 ·intro V' hV' A C t nt tk h3 hN
  rw [kn_eq h,hV] at hV'
  cases hV'
  refine ⟨_,rfl, ?_⟩
  rw [yF]
  exact kv_frz hsq h3 t
def evS (s:Survey):Survey:=⟨s.stations,[]⟩
theorem evS_sw {s:Survey} (h:Sw s):Sw (evS s):=⟨h.st,fun x hx=>by cases hx⟩
theorem least1_ac (s:Survey) (h:Sw s) (ds:List Bound) (hd:ds.length≤1000) (hok:∀ x∈ds,BOk (Lv.num s) x) {V:Mat} (hV:kn (evS s) ds=some V) (hsq:Sq (Lv.num s) V) (M:AV) (H:List (Option Blk)) (N:Nat) (toks:List Nat) (hM:Sub M (.slice (bnds ds) ds.length .unk))
  (i j k l:Nat) (hi:cellsAt H i=some [.int .i64 s.stations,.nilS]) (hj:cellsAt H j=some [M]) (hk:cellsAt H k=some (surC s)) (hl:cellsAt H l=some [.nilS]) (hkl:k≠l) :
  AC Tryz.prog 93 [.ref i 0,.ref j 0,.ref k 0,.ref l 0] ⟨H,N,toks⟩ fun e S'=>e=.ret (.tuple []) ∧ ∃ Hh W nt tk,S'=⟨Hh,nt,tk⟩∧cellsAt Hh l=some [W]∧(∀ q,q<H.length→q≠l→cellsAt Hh q=cellsAt H q)∧Own (ints ((List.range (Lv.num s)).map (lowAt V (Lv.num s)))) (Lv.num s) W nt tk:=by
 refine AC.run (Es_ok _ _) mix Tryz.func93 m93 rfl rfl rfl (zE rfl) ?_
 have hst:s.stations=(Lv.num s:Int):=by have:=h.st;show _=((s.stations.toNat:Nat):Int);omega
 have hn2:2≤Lv.num s∧Lv.num s≤8:=by have:=h.st;show 2≤s.stations.toNat∧s.stations.toNat≤8;omega
 have hkp:=known_even_pc (evS s) (evS_sw h) rfl ds hd hok hV hsq
 have cax:∀ X,cellsAt (H ++ X) k=some (surC s):=fun X=>zAp hk X
 have c1:=zAg H
 have c2:=fun x B=>zAs H x B
 simp only [go_sem,hi,hj,zB,zD,zC,reduceIte,reduceCtorEq,zA]
 refine zCa (E:=Es _ _) n94 hkp (SubL.cons (Sub.agg (SubL.cons (Sub.refl _) (SubL.cons Sub.nil (SubL.refl [])))) (SubL.cons hM (SubL.refl []))) ?_
 simp only [go_sem,c1,c2,zAd,AV.cells,AV.one,zL,zO,zJ,splice,zI,zH,and_self,cax,zB,zD,zC,reduceIte,reduceCtorEq,zA]
 obtain ⟨n,hn⟩:∃ n,Lv.num s=n:=⟨_,rfl⟩
 rw [hn] at hn2 hst hsq ⊢
 have hll:=zEe hl
 refine zAt (fun m ts' S' => ∃ a W nt tk Hh,a≤n∧m=n - a∧ts'=[(3,.ref l 0),(4,.ref H.length 0),(11,.int .i64 s.stations),(12,.int .i64 (a:Nat))]∧S'=⟨Hh,nt,tk⟩∧cellsAt Hh l=some [W]∧cellsAt Hh H.length=some (kvC (evS s) (wS V))∧(∀ q,q<H.length→q≠l→cellsAt Hh q=cellsAt H q)∧Own (ints ((List.range a).map (lowAt V n))) a W nt tk) n ⟨0,.nilS,N,toks,_,qH _,rfl,rfl,rfl,zAp hl _,c1 _,fun q hq _ => ?_,Own.nil _ _⟩ ?_
 ·unfold cellsAt;rw [qJ hq]
 rintro m ts' S' ⟨a,W,nt,tk,Hh,ha,rfl,rfl,rfl,d1,d2,d3,ho⟩
 by_cases hlt:a<n
 ·have h1:(a:Int)<s.stations:=by omega
  have h4:IntKind.i64.wrap ((a:Int)+1)=(a+1:Nat):=wrap64 (by omega)
  have hb:=baseG_lt V hlt
  have hx:=zEe d1
  have hs:∀ B,setH Hh l (.cells B)=setH Hh l (.cells B):=fun _=>rfl
  simp only [go_sem,l93_0,h1,decide_true,d2,zB,zD,zC,reduceIte,reduceCtorEq,zA]
  refine zCa (E:=Es _ _) n87 (base_pc (evS s) hst (by omega) hsq hlt) (SubL.refl _) ?_
  simp only [go_sem,d1,d2,zB,zD,zC,reduceIte,reduceCtorEq,zA]
  refine zBm (E:=Es _ _) n95 (least_pc (evS s) hsq hb hlt) (SubL.refl _) ?_
  simp only [go_sem,d1,zAa,zB,zD,zC,reduceIte,reduceCtorEq,zA]
  refine zDw (lx:=[.int .i64 (IntKind.i64.wrap (0 - ent V a (baseG V n a)))]) rowInts ho (by simp) rfl (by decide) rfl (by omega) fun W' tk' g => ?_
  obtain ⟨q1,q2⟩:=g.own.cells
  simp only [go_sem,d1,q1,q2,zAd,zL,zO,zJ,splice,and_self,zI,zH,h4,zB,zD,zC,reduceIte,reduceCtorEq,zA]
  refine zAi (n - (a+1)) (by omega) ⟨a+1,W',nt+1,tk',_,hlt,rfl,rfl,rfl,cells_self hx, ?_,fun q hq hne => ?_, ?_⟩
  ·rw [zBv hx (by omega)];exact d2
  ·rw [zBv hx hne];exact d3 q hq hne
  ·have:=g.own
   rw [show [AV.int .i64 (IntKind.i64.wrap (0 - ent V a (baseG V n a)))]=ints [lowAt V n a] from rfl,ints_app] at this
   rw [yN,qR]
   exact this
 ·have h1:¬ (a:Int)<s.stations:=by omega
  have e:a=n:=by omega
  subst e
  simp only [go_sem,l93_0,h1,decide_false,Tryz.f93,zB,zD,zC,reduceIte,reduceCtorEq,zA]
  exact ⟨rfl,Hh,W,nt,tk,rfl,d1,d3,ho⟩
def leB (d o:Int) (x:Sight):List Bound:=sB ⟨x.frm,x.to,x.rise * d,o⟩
theorem leB_bd {n:Int} {x:Sight} (hx:SightOk n x) {d o:Int} (hd:1≤d∧d≤8) (ho:0≤o∧o≤8000):(leB d o x).map bd=Lv.sightD d o x:=by
 have:=rise_by hx.rise hd
 unfold leB sB Lv.sightD
 simp only [yV,List.map_nil,bd]
 rw [wrap64 (by omega),wrap64 (by omega)]
def lesB (s:Survey) (d o:Int) (l:List Sight):List Bound:=l.flatMap (leB d o)
theorem lesB_bd {s:Survey} (h:Sw s) {d o:Int} (hd:1≤d∧d≤8) (ho:0≤o∧o≤8000):(lesB s d o s.sights).map bd=evenB s d o:=by
 unfold lesB evenB
 rw [List.map_flatMap]
 have:∀ l:List Sight,(∀ x∈l,SightOk s.stations x)→l.flatMap (fun a=>(leB d o a).map bd)=l.flatMap (Lv.sightD d o):=fun l hl=>by
  induction l with
  | nil=>rfl
  | cons x l ih=>rw [qW,qW,leB_bd (hl x zP) hd ho,ih fun y hy=>hl y (zS _ hy)]
 exact this _ h.sights
theorem lesB_len (s:Survey) (d o:Int) (l:List Sight):(lesB s d o l).length=l.length * 2:=by
 unfold lesB
 induction l with
 | nil=>rfl
 | cons x l ih=>rw [qW,qC,ih,qB];simp [leB,sB];omega
theorem lesB_ok {s:Survey} (h:Sw s) {d o:Int} (hd:1≤d∧d≤8) (ho:0≤o∧o≤8000):∀ b∈lesB s d o s.sights,BOk (Lv.num s) b:=fun b hb=>by
 obtain ⟨x,hx,hb⟩:=List.mem_flatMap.1 hb
 have hx:=h.sights x hx
 have a:=rise_by hx.rise hd
 have h1:=hx.frm;have h2:=hx.to
 have h3:=h.st
 have e:((Lv.num s:Nat):Int)=s.stations:=by show ((s.stations.toNat:Nat):Int)=_;omega
 simp only [leB,sB,yK,qY,or_false] at hb
 rw [wrap64 (by omega),wrap64 (by omega)] at hb
 rcases hb with rfl | rfl
 ·exact ⟨by rw [e];exact h1,by rw [e];exact h2,by show -20000≤x.rise * d+o∧x.rise * d+o≤20000;omega⟩
 ·exact ⟨by rw [e];exact h2,by rw [e];exact h1,by show -20000≤o - x.rise * d∧o - x.rise * d≤20000;omega⟩
def evenV (s:Survey):Mat:=(Lv.clo (Lv.num s) (evenB s (errF s).2 (errF s).1)).getD []
theorem evenV_eq {s:Survey} (h:Sw s):Lv.clo (Lv.num s) (evenB s (errF s).2 (errF s).1)=some (evenV s):=by
 obtain ⟨V,hV⟩:=Lv.even_some h (Lv.err_ok h)
 unfold evenV
 rw [hV];rfl
def evenL (s:Survey):List Int:=(List.range (Lv.num s)).map (lowAt (evenV s) (Lv.num s))
def leastA (s:Survey):AV:=if zAo s=true then .tuple [frA (errF s),sl (evenL s),.int .i64 0] else .tuple [frA (0,0),.nilS,.int .i64 2]
theorem leastA_bnd (s:Survey):(leastA s).bnd 0 0=true:=by
 unfold leastA
 split
 ·simp [AV.bnd,bndL]
 ·rfl
def lone (i:Nat) (l:List AV):St:=⟨List.replicate i none ++ [some (.cells l)],0,[]⟩
theorem lone_at (i:Nat) (l:List AV):cellsAt (lone i l).heap i=some l:=by
 unfold cellsAt lone
 have:(List.replicate i (none:Option Blk) ++ [some (Blk.cells l)])[i]? = some (some (.cells l)):=by
  rw [zY (by simp)];simp
 show (match (List.replicate i (none:Option Blk) ++ [some (Blk.cells l)])[i]? with | some (some (.cells l))=>some l | _=>none)=_
 rw [this]
theorem lone_sees {i:Nat} {l:List AV} {H:List (Option Blk)} (h:cellsAt H i=some l):∀ (p:Nat) (B:Blk),(lone i l).heap[p]? = some (some B)→p∈[i]∧H[p]? = some (some B):=by
 intro p B e
 unfold lone at e
 simp only [List.getElem?_append,List.length_replicate,yD] at e
 split at e
 ·cases e
 ·rename_i hp
  by_cases h0:p=i
  ·subst h0
   simp at e
   subst e
   refine ⟨by simp, ?_⟩
   unfold cellsAt at h
   revert h
   split
   ·intro h;cases h;assumption
   ·intro h;cases h
  ·rw [zM (by simp;omega)] at e
   cases e
theorem Least_pc (s:Survey) (hl:okL s.sights.length):PC Tryz.prog 32 [surA s] (.pure (leastA s)):=by
 refine PC.of_frz (AC.run (E_ok _) mix Tryz.func32 m32 rfl rfl rfl (zE rfl) ?_) (by simp [bndL,AV.bnd]) (leastA_bnd s)
 unfold leastA
 simp only [go_sem,boxA,zB,zD,zC,reduceIte,reduceCtorEq,zA]
 refine cp n89 (zBg s hl) (SubL.refl _) ?_
 cases hs:zAo s
 ·simp only [go_sem,zAh,qD,zAd,AV.cells,AV.one,zL,zO,zJ,splice,zI,zH,and_self,Tryz.f32,zB,zD,zC,reduceIte,reduceCtorEq,zA]
  exact ⟨_,rfl,.same _⟩
 have hv:=zBr.1 hs
 have h:=hv.toSw
 have hr:=Lv.err_ok h
 obtain ⟨b1,b2,b3⟩:=Lv.err_bd h hr
 have hbd0:buildA T 24 [(0,.int .i64 s.stations)]=some (.agg [.int .i64 s.stations,.nilS]):=rfl
 simp only [go_sem,zAh,zV,zB,zD,zC,reduceIte,reduceCtorEq,zA]
 refine cp n90 (least_err_pc s h (by have:=hv.many;omega)) (SubL.refl _) ?_
 obtain ⟨o,ho⟩:∃ o,errF s=o:=⟨_,rfl⟩
 rw [ho] at b1 b2 b3 ⊢
 obtain ⟨p,q⟩:=o
 simp only at b1 b2 b3
 simp only [go_sem,hbd0,zAd,AV.cells,AV.one,zL,zO,zJ,splice,zI,zH,and_self,zAa,zB,zD,zC,reduceIte,reduceCtorEq,zA]
 refine zAt (fun m ts' S' => ∃ k M nt tk X,k≤s.sights.length∧m=s.sights.length - k∧ts'=[(1,.ref 0 0),(2,.ref 1 0),(5,.ref 2 0),(6,.ref 3 0),(7,.ref 4 0),(22,.slice (sgts s.sights) s.sights.length .unk),(23,.int .i64 s.sights.length),(24,.int .i64 (k:Nat))]∧S'=⟨[some (.cells (surC s)),some (.cells [.int .i64 0,.int .i64 0]),some (.cells [.int .i64 p,.int .i64 q]),some (.cells [.int .i64 s.stations,.nilS]),some (.cells [M])] ++ X,nt,tk⟩∧MoreA (lesB s q p (s.sights.take k)) M ⟨[],nt,tk⟩ nt) s.sights.length ⟨0,.nilS,0,[],[],qH _,rfl,rfl,rfl,.inl ⟨rfl,by simp [lesB]⟩⟩ ?_
 rintro m ts' S' ⟨k,M,nt,tk,X,hk,rfl,rfl,rfl,hM⟩
 have hM1:M.cells=[M]∧M.one=true:=by
  rcases hM with ⟨rfl,_⟩ | ⟨k,rfl,_,_⟩
  ·exact ⟨rfl,rfl⟩
  ·exact ⟨rfl,rfl⟩
 have c1:∀ a b c d e l,cellsAt (a :: b :: c :: d :: e :: (X ++ [some (.cells l)])) (X.length+1+1+1+1+1)=some l:=fun a b c d e l=>zAg (a :: b :: c :: d :: e :: X) l
 have c2:∀ a b c d e x B,setH (a :: b :: c :: d :: e :: (X ++ [x])) (X.length+1+1+1+1+1) B=a :: b :: c :: d :: e :: (X ++ [some B]):=fun a b c d e x B=>zAs (a :: b :: c :: d :: e :: X) x B
 by_cases hlt:k<s.sights.length
 ·have k1:(k:Int)<s.sights.length:=by omega
  have k2:0≤(k:Int)∧(k:Int)<s.sights.length:=by omega
  have k3:k * 4+4≤(sgts s.sights).length:=by rw [zAz];omega
  have k4:IntKind.i64.wrap ((k:Int)+1)=(k+1:Nat):=wrap64 (by omega)
  have k5:=zCc s.sights k hlt
  have hx:=h.sights _ (zX hlt)
  have hm14:=hv.many
  have hlen2:(lesB s q p (s.sights.take k)).length+(leB q p s.sights[k]).length≤1000000:=by rw [lesB_len,yL];simp [leB,sB];omega
  have hlb:lesB s q p (s.sights.take (k+1))=lesB s q p (s.sights.take k) ++ leB q p s.sights[k]:=by
   rw [qF hlt];unfold lesB;rw [List.flatMap_append];simp
  generalize s.sights[k]=x at *
  have w0:=rise_by hx.rise b1
  have w1:IntKind.i64.wrap (x.rise * q)=x.rise * q:=wrap64 (by omega)
  have hbd:∀ a b c d:Int,buildA T 85 [(0,.int .i64 a),(1,.int .i64 b),(2,.int .i64 c),(3,.int .i64 d)]=some (.agg [.int .i64 a,.int .i64 b,.int .i64 c,.int .i64 d]):=fun _ _ _ _=>rfl
  simp only [go_sem,l32_0,k1,decide_true,k2,k3,k5,zAf,and_self,c1,c2,zAd,AV.cells,AV.one,zL,zO,zJ,splice,zI,zH,w1,hbd,zB,zD,zC,reduceIte,reduceCtorEq,zA]
  refine qp n91 (zDv ⟨x.frm,x.to,x.rise * q,p⟩) (SubL.refl _) ?_
  simp only [go_sem,zAa,zB,zD,zC,reduceIte,reduceCtorEq,zA]
  refine MoreA.app (S:=⟨_,nt,tk⟩) (l:=leB q p x) (N:=nt) (hM.mono (S':=⟨some (.cells (surC s)) :: some (.cells [.int .i64 0,.int .i64 0]) :: some (.cells [.int .i64 p,.int .i64 q]) :: some (.cells [.int .i64 s.stations,.nilS]) :: some (.cells [M]) :: (X ++ [some (.cells (sgtC x))]),nt,tk⟩) (fun k hk _=>hk) (zN _)) (zN _) (by simp [leB,sB]) hlen2 fun M3 tk3 hM3 => ?_
  have hM3':M3.cells=[M3]∧M3.one=true:=by
   rcases hM3 with ⟨rfl,_⟩ | ⟨k,rfl,_,_⟩
   ·exact ⟨rfl,rfl⟩
   ·exact ⟨rfl,rfl⟩
  obtain ⟨q1,q2⟩:=hM3'
  simp only [go_sem,q1,q2,zAd,zL,zO,zJ,splice,and_self,zI,zH,k4,zB,zD,zC,reduceIte,reduceCtorEq,zA]
  refine zAi (s.sights.length - (k+1)) (by omega) ⟨k+1,M3,nt+1,tk3,_,hlt,rfl,rfl,rfl, ?_⟩
  rw [hlb];exact hM3.mono (fun k hk _=>hk) (zN _)
 have k1:¬ (k:Int)<s.sights.length:=by omega
 have ek:k=s.sights.length:=by omega
 subst ek
 rw [qZ] at hM
 have hV:=evenV_eq h
 have hkn:kn (evS s) (lesB s q p s.sights)=some (evenV s):=by
  unfold kn
  rw [lesB_bd h b1 ⟨b2,b3⟩]
  rw [ho] at hV
  show Lv.clo (Lv.num s) (evenB s q p ++ [])=_
  rw [List.append_nil];exact hV
 have hsq:Sq (Lv.num s) (evenV s):=(Lv.clo_shape (Lv.even_oks h (Lv.err_bd h hr).1 (Lv.err_bd h hr).2) hV).sq
 have hsub:Sub M (.slice (bnds (lesB s q p s.sights)) (lesB s q p s.sights).length .unk):=by
  rcases hM with ⟨rfl,e⟩ | ⟨k,rfl,_,_⟩
  ·rw [e];exact Sub.nil
  ·exact Sub.unk _ _ _
 simp only [go_sem,l32_0,k1,decide_false,zB,zD,zC,reduceIte,reduceCtorEq,zA]
 obtain ⟨S0,hS0⟩:∃ S0:List (Option Blk),some (.cells (surC s)) :: some (.cells [.int .i64 0,.int .i64 0]) :: some (.cells [.int .i64 p,.int .i64 q]) :: some (.cells [.int .i64 s.stations,.nilS]) :: some (.cells [M]) :: (X ++ [some (.cells [.nilS])])=S0:=⟨_,rfl⟩
 have e0:cellsAt S0 0=some (surC s):=by rw [← hS0];rfl
 have e1:cellsAt S0 1=some [.int .i64 0,.int .i64 0]:=by rw [← hS0];rfl
 have e2:cellsAt S0 2=some [.int .i64 p,.int .i64 q]:=by rw [← hS0];rfl
 have e3:cellsAt S0 3=some [.int .i64 s.stations,.nilS]:=by rw [← hS0];rfl
 have e4:cellsAt S0 4=some [M]:=by rw [← hS0];rfl
 have e5:cellsAt S0 (X.length+1+1+1+1+1)=some [.nilS]:=by rw [← hS0];exact c1 _ _ _ _ _ _
 have hl0:S0.length=X.length+6:=by rw [← hS0];simp
 rw [hS0]
 have hd:(lesB s q p s.sights).length≤1000:=by rw [lesB_len];have:=hv.many;omega
 refine zCb (E:=E _) (R:=fun e S'=>e=.ret (.int .i64 0) ∧ ∃ Hh W nt tk,S'=⟨Hh,nt,tk⟩∧cellsAt Hh (X.length+1+1+1+1+1)=some [W]∧cellsAt Hh 1=some [.int .i64 0,.int .i64 0]∧cellsAt Hh 2=some [.int .i64 p,.int .i64 q]∧Own (ints (evenL s)) (Lv.num s) W nt tk) n92 (try_ac (S:=⟨S0,nt,tk⟩) n93 (least1_ac s h (lesB s q p s.sights) hd (lesB_ok h b1 ⟨b2,b3⟩) hkn hsq M _ nt tk hsub 3 4 0 (X.length+1+1+1+1+1) (zAp e3 _) (zAp e4 _) (zAp e0 _) (zAp e5 _) (by omega)) ?_ ?_) ?_ ?_
 ·rintro v S' ⟨e,Hh,W,nt',tk',rfl,d1,d3,hO⟩
  refine ⟨?_,rfl,Hh,W,nt',tk',rfl,d1, ?_, ?_,hO⟩
  ·rw [d3 S0.length (by simp) (by omega)]
   exact zAg _ _
  ·rw [d3 1 (by simp;omega) (by omega)];exact zAp e1 _
  ·rw [d3 2 (by simp;omega) (by omega)];exact zAp e2 _
 ·rintro v S' ⟨e,_⟩
  cases e
 ·rintro v S' ⟨e,Hh,W,nt',tk',rfl,d1,d2,d3,hO⟩
  cases e
  have hlt1:=zEe d2
  have d1':∀ B,cellsAt (setH Hh 1 B) (X.length+1+1+1+1+1)=some [W]:=fun B=>by rw [zBv hlt1 (by omega)];exact d1
  have d2':∀ B,cellsAt (setH Hh 1 (.cells B)) 1=some B:=fun B=>cells_self hlt1
  simp only [go_sem,d1,d2,d3,zB,zD,zC,reduceIte,reduceCtorEq,zA]
  have hlt2:=zEe d1
  refine ⟨[X.length+1+1+1+1+1],fun i hi=>by simp only [yH] at hi;subst hi;exact hlt2, ?_⟩
  simp only [go_sem,preZ,QOpZ,guardM,isW,d1,d2,d3,zB,zD,zC,reduceIte,reduceCtorEq,zA]
  refine ⟨rfl,trivial, ?_⟩
  refine ⟨lone _ _,_,lone_sees d1,by simp only [go_sem,lone_at,zB,zD,zC,reduceIte,reduceCtorEq,zA];all_goals rfl,rfl, ?_⟩
  simp only [yT,yM,Res.app]
  simp only [go_sem,d1,d2,d3,d1',d2',zAd,AV.cells,AV.one,zL,zO,zJ,splice,and_self,zI,zH,Res.app,Res.ok,zB,zD,zC,reduceIte,reduceCtorEq,zA]
  refine ⟨fun i B v e=>by cases e;simp only [yH];omega, ?_⟩
  simp only [resA,Tryz.f32]
  simp only [go_sem,d1,d2',d1',zB,zD,zC,reduceIte,reduceCtorEq,zA]
  refine ⟨_,rfl,frz_three (.same _) ?_ (.same _)⟩
  have:=hO.frz (setH Hh 1 (.cells [.int .i64 p,.int .i64 q]))
  have hlen:(evenL s).length=Lv.num s:=by simp [evenL]
  rw [← hlen] at this
  exact this
 ·intro v S' h
  cases h.1
end Go.Av.Lx
end
section
set_option maxHeartbeats 2000000
namespace Go.Av.Lx
open Go Go.Av Go.Av.Tb Go.Av.Fx Go.Proofs
open Go.Lv (Sight Survey Sw Sv SightOk Stp bgS enS riseS stpD chainB closedB sightAt flip)
open Go.Fw (Sq ent Bd Mat)
theorem un_neg (n:Int):unA .neg (.int .i64 n)=some (.int .i64 (IntKind.i64.wrap (0 - n))):=rfl
@[go_sem] theorem bd_stp (a:Int) (b:Bool):buildA T 127 [(0,.int .i64 a),(1,.bool b)]=some (.agg [.int .i64 a,.bool b]):=rfl
theorem sgts_cell (l:List Sight) (k j:Nat) (h:k<l.length) (hj:j<4):(sgts l)[k * 4+j]? = (sgtC l[k])[j]?:=by
 rw [← zCc l k h,List.getElem?_take_of_lt hj,List.getElem?_drop]
theorem sight_get {s:Survey} {k:Nat} (h:k<s.sights.length):sightAt s k=s.sights[k]:=by
 unfold sightAt
 rw [qT,zG,zF h];rfl
abbrev InS (s:Survey) (x:Stp):Prop:=0≤x.sight∧x.sight<s.sights.length
theorem enS_flip (s:Survey) (i:Int) (b:Bool):bgS s ⟨i,!b⟩=enS s ⟨i,b⟩:=by unfold bgS enS;cases b <;> rfl
theorem zFe (s:Survey) (x:Stp) (hx:InS s x):PC Tryz.prog 137 [surA s,.agg (stpC x)] (.pure (.int .i64 (bgS s x))):=by
 refine PC.of_empty (AC.run (E_ok _) mix Tryz.func137 m137 rfl rfl rfl (zE rfl) ?_) (by simp [bndL,AV.bnd]) rfl
 obtain ⟨i,b⟩:=x
 obtain ⟨k,rfl⟩:∃ k:Nat,i=k:=⟨i.toNat,by have:=hx.1;simp only at this;omega⟩
 have h2:(k:Int)<s.sights.length:=hx.2
 have hk:k<s.sights.length:=by omega
 have k2:0≤(k:Int)∧(k:Int)<s.sights.length:=by omega
 have g0:(sgts s.sights)[k * 4+0]? = some (.int .i64 s.sights[k].frm):=sgts_cell s.sights k 0 hk (by decide)
 have g1:(sgts s.sights)[k * 4+1]? = some (.int .i64 s.sights[k].to):=sgts_cell s.sights k 1 hk (by decide)
 unfold bgS
 rw [sight_get hk]
 cases b
 ·simp only [go_sem,boxA,k2,zAf,and_self,g0,Tryz.f137,zB,zD,zC,reduceIte,reduceCtorEq,zA]
  all_goals rfl
 ·simp only [go_sem,boxA,k2,zAf,and_self,g1,Tryz.f137,zB,zD,zC,reduceIte,reduceCtorEq,zA]
  all_goals rfl
theorem ends_pc (s:Survey) (x:Stp) (hx:InS s x):PC Tryz.prog 136 [surA s,.agg (stpC x)] (.pure (.int .i64 (enS s x))):=by
 refine PC.of_empty (AC.run (E_ok _) mix Tryz.func136 m136 rfl rfl rfl (zE rfl) ?_) (by simp [bndL,AV.bnd]) rfl
 obtain ⟨i,b⟩:=x
 have h:=zFe s ⟨i,!b⟩ hx
 rw [enS_flip] at h
 simp only [go_sem,boxA,zAh,zAd,AV.cells,AV.one,zL,zO,zJ,splice,zI,zH,and_self,zB,zD,zC,reduceIte,reduceCtorEq,zA]
 refine cp n137 h (SubL.refl _) ?_
 simp only [go_sem,Tryz.f136,zB,zD,zC,reduceIte,reduceCtorEq,zA]
 all_goals rfl
def upSt (s:Survey) (x:Stp):Int:=(Lv.stepB s x).m
theorem rises_pc (s:Survey) (hs:Sw s) (x:Stp) (hx:InS s x):PC Tryz.prog 135 [surA s,.agg (stpC x)] (.pure (.int .i64 (upSt s x))):=by
 refine PC.of_empty (AC.run (E_ok _) mix Tryz.func135 m135 rfl rfl rfl (zE rfl) ?_) (by simp [bndL,AV.bnd]) rfl
 obtain ⟨i,b⟩:=x
 obtain ⟨k,rfl⟩:∃ k:Nat,i=k:=⟨i.toNat,by have:=hx.1;simp only at this;omega⟩
 have h2:(k:Int)<s.sights.length:=hx.2
 have hk:k<s.sights.length:=by omega
 have k2:0≤(k:Int)∧(k:Int)<s.sights.length:=by omega
 have k3:k * 4+4≤(sgts s.sights).length:=by rw [zAz];omega
 have k5:=zCc s.sights k hk
 have hso:=hs.sights _ (zX hk)
 have hb:=hso.rise
 have hb2:=hso.off
 have w1:IntKind.i64.wrap (s.sights[k].rise+s.sights[k].off)=s.sights[k].rise+s.sights[k].off:=wrap64 (by omega)
 have w2:IntKind.i64.wrap (s.sights[k].off - s.sights[k].rise)=s.sights[k].off - s.sights[k].rise:=wrap64 (by omega)
 have hB:=zDv s.sights[k]
 have z0:(0:Int)≤0∧(0:Int)<((2:Nat):Int):=by decide
 have z1:(0:Int)≤1∧(1:Int)<((2:Nat):Int):=by decide
 unfold upSt Lv.stepB Lv.stepG
 rw [sight_get hk]
 unfold Lv.upS Lv.downS
 unfold sB bnds at hB
 rw [w1,w2] at hB
 generalize s.sights[k]=y at *
 simp only [go_sem,boxA,k2,k3,k5,zAf,and_self,zB,zD,zC,reduceIte,reduceCtorEq,zA]
 have hB':PC Tryz.prog 91 [.agg (sgtC y)] (.pure (.slice [.int .i64 y.frm,.int .i64 y.to,.int .i64 (y.rise+y.off),.int .i64 y.to,.int .i64 y.frm,.int .i64 (y.off - y.rise)] 2 .exact)):=hB
 refine cp n91 hB' (SubL.refl _) ?_
 cases b
 ·simp only [go_sem,z0,Int.toNat_zero,Nat.zero_mul,Tryz.f135,zB,zD,zC,reduceIte,reduceCtorEq,zA]
  all_goals rfl
 ·simp only [go_sem,z1,Int.toNat_one,Nat.one_mul,Tryz.f135,zB,zD,zC,reduceIte,reduceCtorEq,zA]
  all_goals rfl
theorem chainB_iff {s:Survey} {l:List Stp}:chainB s l=true ↔ ∀ i,i<l.length→(i=0∨bgS s (l.getD i stpD)=enS s (l.getD (i - 1) stpD)) ∧ ∀ k,k<i→enS s (l.getD k stpD)≠enS s (l.getD i stpD):=by
 unfold chainB
 simp only [qX,List.mem_range,zR,yR,decide_eq_true_eq,yO,decide_eq_false_iff_not]
theorem zEf {l:List Stp} {k:Nat} (h:k<l.length):l.getD k stpD=l[k]:=by rw [zG,zF h];rfl
set_option maxHeartbeats 2000000

end Go.Av.Lx
end
section
set_option maxHeartbeats 2000000
namespace Go.Av.Lx
open Go Go.Av Go.Av.Tb Go.Av.Fx Go.Proofs
open Go.Lv (Sight Survey Sw Sv SightOk Stp bgS enS riseS riseL stpD chainB closedB stpAt goesB greater worstF FrQ redF)
open Go.Fw (Sq ent Bd Mat)
@[go_sem] theorem bs_stp (a:Int) (b:Bool):zAe T 117 1 [(0,.agg [.int .i64 a,.bool b])]=some (.slice [.int .i64 a,.bool b] 1 .exact):=rfl
theorem stps_one (l:List Stp):(stpsC l).all AV.one=true:=cat_one (f:=stpC) (fun _=>rfl) l
theorem stps_snoc (l:List Stp) (x:Stp):stpsC l ++ [.int .i64 x.sight,.bool x.back]=stpsC (l ++ [x]):=cat_snoc (f:=stpC) l x
end Go.Av.Lx
end
section
set_option maxHeartbeats 2000000
namespace Go.Av.Lx
open Go Go.Av Go.Av.Tb Go.Av.Fx Go.Proofs
open Go.Lv (Sight Survey Sw Sv SightOk Stp errF evenB redF RedP worstF FrQ)
open Go.Fw (Sq ent Bd Mat)

end Go.Av.Lx
end
