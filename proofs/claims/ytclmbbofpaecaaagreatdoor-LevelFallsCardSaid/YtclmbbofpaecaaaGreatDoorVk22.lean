/- Part 22 of the proof. -/
import Derived.Test.YtclmbbofpaecaaaGreatDoorVk21
set_option linter.all false
set_option linter.unusedVariables false
set_option linter.unusedSimpArgs false
set_option linter.unusedSectionVars false
open Bool renaming and_self → zJ, false_and → qM, true_and → qY
open Int renaming toNat_natCast → qO, le_trans → yS, mul_comm → yV
open List renaming getElem?_eq_getElem → zF, set_cons_succ → zG, getD_eq_getElem?_getD → zH, set_cons_zero → zI, all_cons → zK, all_nil → zL, getElem?_eq_none → zO, mem_cons_self → zP, getElem?_append_right → zQ, mem_cons_of_mem → zS, getElem_mem → zX, length_append → zY, getElem?_map → qC, take_succ_eq_append_getElem → qF, getElem?_range → qP, getElem?_replicate → qW, getElem?_set → yB, all_eq_true → yG, take_length → yH, range_succ → yK, take_of_length_le → yO
open Nat renaming reduceLeDiff → zA, reduceEqDiff → zB, reduceAdd → zC, reduceBEq → zD, le_of_ble_eq_true → zE, le_refl → zN, lt_or_ge → zV, zero_le → qN, mul_one → qR, not_lt_zero → yA, sub_self → yU
open Option renaming map_some → zZ
open Option.some renaming injEq → xA
section
set_option maxHeartbeats 4000000
namespace Go.Av.Lx
open Go Go.Av Go.Av.Tb Go.Av.Fx Go.Proofs
open Go.Lv (Sight Survey Sw Sv SightOk Leg LegOk RangeOk Tun TunOk Try TryOk Stp fallW meetL meetH bestAt driveF wideI carryW carryB Clos Both)
open Go.Fw (Sq ent Bd Mat upd row stage upto)
theorem zEe {α β:Type} (f:α→β→α) (z:α):∀ (l:List β),(∀ x∈l,f z x=z)→l.foldl f z=z
 | [],_=>rfl
 | x :: l,h=>by
  rw [List.foldl_cons,h x zP]
  exact zEe f z l fun y hy=>h y (zS _ hy)
theorem round_same {n:Nat} {cs ds:List Bd} {W:Mat} (h:Clos n (cs ++ ds) W) (hs:Sq n W):upto far n n (ds.foldl Fw.addc W)=W:=by
 have h1:ds.foldl Fw.addc W=W:=zEe _ _ _ fun c hc=>by
  have:=(h.mem c (List.mem_append_right _ hc)).1
  unfold Fw.addc
  rw [show min (ent W c.a c.b) c.m=ent W c.a c.b by omega]
  exact zFg hs _ _
 rw [h1]
 have hu:∀ c a b,c<n→a<n→b<n→upd far c a W b=W:=fun c a b hc ha hb=>by
  unfold Fw.upd
  split
  ·rename_i g
   have:=(h.tri a c b ha hc hb g.1 g.2).1
   rw [show min (ent W a b) (ent W a c+ent W c b)=ent W a b by omega]
   exact zFg hs _ _
  ·rfl
 have hr:∀ c a,c<n→a<n→row far n c W a=W:=fun c a hc ha=>zEe _ _ _ fun b hb=>hu c a b hc ha (List.mem_range.1 hb)
 exact zEe _ _ _ fun c hc=>zEe _ _ _ fun a ha=>hr c a (List.mem_range.1 hc) (List.mem_range.1 ha)
theorem good_again {s:Survey} (h:Sw s) {V W:Mat} (hV:Lv.knownV s=some V) {l:List Leg} {lo hi:Int} (hl:∀ x∈l,LegOk s.stations x) (hr:RangeOk lo hi) (hW:Fw.closed far (Lv.num s) ((Lv.legsR lo hi l).foldl Fw.addc V)=some W) :
  Fw.Good far Lv.big Lv.big (Lv.num s) W∧upto far (Lv.num s) (Lv.num s) ((Lv.legsR lo hi l).foldl Fw.addc W)=W:=by
 have hlay:=Lv.known_lay h hV (Lv.legs_oks h hl hr)
 obtain ⟨hc,hsh⟩:=hlay.some hW
 have hn:=h.num8
 have hm:∀ c∈Lv.surveyB s ++ Lv.legsR lo hi l,c.m≤2000:=fun c hc'=>by
  rcases List.mem_append.1 hc' with hc' | hc'
  ·have:=(h.bd c hc').2.2.2.2;omega
  ·obtain ⟨x,hx,rfl | rfl⟩:=Lv.mem_legsR.1 hc'
   ·obtain ⟨s1,s2⟩:=Lv.leg_small (hl x hx) hr
    show -(x.long * lo)≤2000;omega
   ·obtain ⟨s1,s2⟩:=Lv.leg_small (hl x hx) hr
    show x.long * hi≤2000;omega
 have htop:∀ i j,i<Lv.num s→j<Lv.num s→ent W i j<far→ent W i j≤16000:=fun i j hi hj hf=>by
  have:=hc.top (M:=2000) (by decide) hm hi hj hf
  have:(2000:Int) * (Lv.num s:Nat)≤16000:=by omega
  omega
 have hb:=Lv.both_app (Lv.survey_both s) (Lv.legs_both lo hi l)
 have hbig:Lv.big=20000:=rfl
 have hfar:far=1099511627776:=rfl
 refine ⟨⟨hsh.sq,hc.diag,hsh.high,fun i j hi hj hf => ?_,fun i j hi hj => ?_⟩,round_same hc hsh.sq⟩
 ·have:=htop i j hi hj hf;omega
 ·by_cases hf:ent W i j<far
  ·have hf2:=hc.sym hb hi hj hf
   have a:=htop j i hj hi hf2
   have b:=hc.neg hi hj hf hf2
   omega
  ·omega
theorem rCarries_pc (s:Survey) (hv:Sv s) {V:Mat} (hV:Lv.knownV s=some V) (l:List Leg) (hlen:l.length≤6) (lo hi:Int) (hr:RangeOk lo hi) (hlg:∀ x∈l,LegOk s.stations x) (hj:joinAll V l=true) :
  PC Tryz.prog 38 [surA s,legsA l,.int .i64 lo,.int .i64 hi] (.pure (.int .i64 (carryW s V l lo hi))):=by
 refine PC.of_empty (AC.run (E_ok _) mix Tryz.func38 m38 rfl rfl rfl (zE rfl) ?_) (by simp [bndL,AV.bnd]) rfl
 have hst:s.stations=(Lv.num s:Int):=by have:=hv.st;show _=((s.stations.toNat:Nat):Int);omega
 have hn8:=hv.toSw.num8
 have hn2:2≤Lv.num s:=by have:=hv.st;show 2≤s.stations.toNat;omega
 simp only [go_sem,boxA,zB,zD,zC,reduceIte,reduceCtorEq,zA]
 refine zAw (E:=E _) n65 (rKnown_ac s hv.toSw (by have:=hv.many;omega) [some (.cells (surC s))] 0 []) (fun v S' hR => ?_) (fun v S' hR => ?_)
 rotate_left
 ·rcases hR with ⟨h0,e,A,nt,tk,hN,rfl⟩ | ⟨V,hV,A,C,t1,t2,nt,tk,e,rfl,h2,hN⟩
  ·cases e
  ·cases e
 rcases hR with ⟨h0,_⟩ | ⟨V',hV',A,C,t1,t2,nt,tk,e,rfl,h2,hN⟩
 ·rw [hV] at h0;cases h0
 rw [hV] at hV'
 cases hV'
 cases e
 have hg0:Fw.Good far Lv.big Lv.big (Lv.num s) V:=(Lv.known_lay hv.toSw hV (Lv.legs_oks hv.toSw hlg hr)).good
 obtain ⟨B,hB⟩:∃ B,some (.cells (surC s)) :: A=B:=⟨_,rfl⟩
 have lB:B.length=5:=by rw [← hB];simp [h2]
 rw [show [some (Blk.cells (surC s))] ++ (A ++ (heapP V ++ C))=B ++ (heapP V ++ C) by rw [← hB];rfl]
 have cB0:∀ X,cellsAt (B ++ X) 0=some (surC s):=fun X=>by rw [← hB];rfl
 clear hB h2
 obtain ⟨L,hL⟩:∃ L,(B ++ (heapP V ++ C)).length=L:=⟨_,rfl⟩
 have hX:∀ y,B ++ (heapP V ++ (C ++ [y]))=(B ++ (heapP V ++ C)) ++ [y]:=fun y=>by simp
 have c1:∀ q,cellsAt (B ++ (heapP V ++ (C ++ [some (.cells q)]))) L=some q:=fun q=>by rw [hX,← hL];exact zAf _ _
 have c2:∀ z B',setH (B ++ (heapP V ++ (C ++ [z]))) L B'=B ++ (heapP V ++ (C ++ [some B'])):=fun z B'=>by rw [hX,← hL,zAs];simp
 simp only [go_sem,zAc,hL,c1,c2,zAd,AV.cells,AV.one,zK,zL,zJ,splice,zI,zG,zB,zD,zC,reduceIte,reduceCtorEq,zA]
 obtain ⟨n,hn⟩:∃ n,Lv.num s=n:=⟨_,rfl⟩
 obtain ⟨C9,hC9⟩:∃ C9,C ++ [some (.cells [AV.slice (rowsM 5 (Lv.num s) (Lv.num s)) (Lv.num s) t1,AV.slice (rowsJ 5 (Lv.num s) (Lv.num s)) (Lv.num s) t2])]=C9:=⟨_,rfl⟩
 have hLv:L=5+(2 * n+C.length):=by rw [← hL,zY,zY,lB,zBi,hg0.sq.1,hn]
 have c9:∀ W,Sq n W → ∀ X,cellsAt (B ++ (heapP W ++ (C9 ++ X))) L=some [AV.slice (rowsM 5 n n) n t1,AV.slice (rowsJ 5 n n) n t2]:=fun W hW X=>by
  have e:B ++ (heapP W ++ (C9 ++ X))=(B ++ (heapP W ++ C)) ++ (some (.cells [AV.slice (rowsM 5 n n) n t1,AV.slice (rowsJ 5 n n) n t2]) :: X):=by
   rw [← hC9,← hn];simp
  have e2:(B ++ (heapP W ++ C)).length=L:=by rw [zY,zY,lB,zBi,hW.1,hLv]
  unfold cellsAt
  rw [e,zQ (by omega),e2,yU];rfl
 have cB:∀ X,cellsAt (B ++ X) 0=some [.int .i64 n,.slice (sgts s.sights) s.sights.length .unk]:=fun X=>by rw [cB0,← hn,surC,hst]
 have h0:Fw.closed far n ((Lv.legsR lo hi l).foldl Fw.addc V)=Fw.closed far n ((Lv.legsR lo hi l).foldl Fw.addc V):=rfl
 have hlay:=Lv.carry_lay hv.toSw hV hlg hr
 have hagain:∀ W,Fw.closed far (Lv.num s) ((Lv.legsR lo hi l).foldl Fw.addc V)=some W→Fw.Good far Lv.big Lv.big (Lv.num s) W∧upto far (Lv.num s) (Lv.num s) ((Lv.legsR lo hi l).foldl Fw.addc W)=W:=fun W hW=>good_again hv.toSw hV hlg hr hW
 have hoks:=Lv.legs_oks hv.toSw hlg hr
 have hlx:∀ (k:Nat) (hk:k<l.length),(l[k].frm.toNat<n∧l[k].to.toNat<n)∧(0≤l[k].frm∧0≤l[k].to):=fun k hk=>by
  have hx:=hlg _ (zX hk)
  have a:=hx.frm;have b:=hx.to
  refine ⟨⟨?_, ?_⟩,a.1,b.1⟩
  ·rw [← hn];show l[k].frm.toNat<s.stations.toNat;omega
  ·rw [← hn];show l[k].to.toNat<s.stations.toNat;omega
 have hlend:∀ W (hW:Sq n W) X,Lnt (B ++ (heapP W ++ (C9 ++ X))) (rG 5 n t1 t2) (rA W):=fun W hW X=>rG_lnt hW lB t1 t2
 have hfr:∀ (k:Nat) (hk:k<l.length),PC Tryz.prog 41 [rA V,.agg (legC l[k]),.int .i64 lo,.int .i64 hi] (.pure (.int .i64 (fallW V l[k] lo hi))):=fun k hk=>by
  have hx:=hlg _ (zX hk)
  have hjk:ent V l[k].frm.toNat l[k].to.toNat<far:=of_decide_eq_true (List.all_eq_true.1 hj _ (zX hk))
  exact rFalls_pc s V _ lo hi hx hr (joinP hv.toSw hV hx.frm hx.to hjk)
 rw [hC9]
 rw [hn] at hg0 hlay hagain hoks hn8 hn2
 clear hC9 hL hX c1 c2 cB0 hLv
 have hcw:carryW s V l lo hi=if surelyB V l lo hi=true then 3 else if carryB s l lo hi=true then 2 else 1:=rfl
 rw [hcw]
 refine zCq l.length (fun k=>[(1,legsA l),(2,.int .i64 lo),(3,.int .i64 hi),(4,.ref 0 0),(9,.ref L 0),(11,.bool (surelyB V (l.take k) lo hi)),(12,.int .i64 (k:Nat))]) (fun _=>⟨B ++ (heapP V ++ C9),nt,tk⟩) rfl rfl ?_
 intro k hk I hI
 by_cases hlt:k<l.length
 ·have k1:(k:Int)<l.length:=by omega
  have k2:0≤(k:Int)∧(k:Int)<l.length:=by omega
  have k3:k * 3+3≤(legsC l).length:=by rw [zDp];omega
  have k4:IntKind.i64.wrap ((k:Int)+1)=(k+1:Nat):=wrap64 (by omega)
  have k5:=zEu l k hlt
  have tk1:l.take (k+1)=l.take k ++ [l[k]]:=qF hlt
  have hsu:surelyB V (l.take (k+1)) lo hi=(surelyB V (l.take k) lo hi && decide (fallW V l[k] lo hi=3)):=by rw [tk1];unfold surelyB;rw [List.all_append];simp
  have hp:=hfr k hlt
  have c9V:=c9 V hg0.sq []
  have hln:=hlend V hg0.sq []
  rw [List.append_nil] at c9V hln
  have hI:=hI hlt
  rw [hsu] at hI
  simp only [go_sem,l38_0,zAa,k1,decide_true,zB,zD,zC,reduceIte,reduceCtorEq,zA]
  cases hsb:surelyB V (l.take k) lo hi
  ·rw [hsb,qM] at hI
   simp only [go_sem,k4,zB,zD,zC,reduceIte,reduceCtorEq,zA]
   exact hI
  ·rw [hsb,qY] at hI
   simp only [go_sem,k2,k3,k5,zAe,and_self,c9V,zB,zD,zC,reduceIte,reduceCtorEq,zA]
   refine cl n41 hp (LntL.cons hln (LntL.cons (.same _ (by simp [AV.bnd,bndL])) (LntL.cons (.same _ rfl) (LntL.cons (.same _ rfl) (LntL.nil _))))) rfl ?_
   simp only [go_sem,k4,zB,zD,zC,reduceIte,reduceCtorEq,zA]
   exact hI
 have k1:¬ (k:Int)<l.length:=by omega
 have ek:k=l.length:=by omega
 subst ek
 rw [yH]
 simp only [go_sem,l38_0,zAa,k1,decide_false,zB,zD,zC,reduceIte,reduceCtorEq,zA]
 cases hsb:surelyB V l lo hi
 rotate_left
 ·simp only [go_sem,Tryz.f38,zB,zD,zC,reduceIte,reduceCtorEq,zA]
  all_goals rfl
 clear hI hk k1 I hfr hlend
 simp only [go_sem,zB,zD,zC,reduceIte,reduceCtorEq,zA]
 obtain ⟨ds,hds⟩:∃ ds,Lv.legsR lo hi l=ds:=⟨_,rfl⟩
 rw [hds] at hlay hagain hoks
 have hnn:(n * n:Int)≤64∧1≤(n * n:Int):=by
  have:n=2∨n=3∨n=4∨n=5∨n=6∨n=7∨n=8:=by omega
  rcases this with rfl | rfl | rfl | rfl | rfl | rfl | rfl <;> decide
 obtain ⟨N2,hN2⟩:∃ N2:Nat,(n * n:Int)=N2:=⟨n * n,by simp⟩
 have wN:IntKind.i64.wrap ((n:Int) * n)=N2:=by rw [hN2];exact wrap64 (by omega)
 refine zAt (fun m ts' S' => ∃ k W X,k≤N2∧m=N2 - k∧ts'=[(1,legsA l),(2,.int .i64 lo),(3,.int .i64 hi),(4,.ref 0 0),(9,.ref L 0),(13,.int .i64 (k:Nat))]∧S'=⟨B ++ (heapP W ++ (C9 ++ X)),nt,tk⟩∧Fw.Good far Lv.big Lv.big n W∧((k=0∧W=V)∨(0<k∧Fw.closed far n (ds.foldl Fw.addc V)=some W))) N2 ⟨0,V,[],qN _,rfl,rfl,by simp,hg0,.inl ⟨rfl,rfl⟩⟩ ?_
 rintro m ts' S' ⟨r,W0,X,hr',rfl,rfl,rfl,hg,hst0⟩
 by_cases hlt:r<N2
 rotate_left
 ·have k1:¬ (r:Int)<(N2:Int):=by omega
  have hcb:carryB s l lo hi=true:=by
   rw [← hlay]
   rcases hst0 with ⟨h,_⟩ | ⟨_,h⟩
   ·omega
   ·show (Fw.closed far n (ds.foldl Fw.addc V)).isSome=true
    rw [h];rfl
  simp only [go_sem,l38_1,cB,wN,k1,decide_false,Tryz.f38,zB,zD,zC,reduceIte,reduceCtorEq,zA]
  rw [hcb];all_goals rfl
 have k1:(r:Int)<(N2:Int):=by omega
 have kr4:IntKind.i64.wrap ((r:Int)+1)=(r+1:Nat):=wrap64 (by omega)
 simp only [go_sem,l38_1,cB,wN,k1,decide_true,zB,zD,zC,reduceIte,reduceCtorEq,zA]
 have hgd:∀ k,Fw.Good far Lv.big Lv.big n ((Lv.legsR lo hi (l.take k)).foldl Fw.addc W0):=fun k=>hg.fold fun c hc=>hoks c (by
  rw [← hds]
  obtain ⟨x,hx,hc⟩:=List.mem_flatMap.1 hc
  exact List.mem_flatMap.2 ⟨x,List.mem_of_mem_take hx,hc⟩)
 refine zBs l.length (fun k=>[(1,legsA l),(2,.int .i64 lo),(3,.int .i64 hi),(4,.ref 0 0),(9,.ref L 0),(13,.int .i64 (r:Nat)),(14,.int .i64 (k:Nat))])
  (fun k S => ∃ X,S=⟨B ++ (heapP ((Lv.legsR lo hi (l.take k)).foldl Fw.addc W0) ++ (C9 ++ X)),nt,tk⟩) rfl ⟨X,by simp [Lv.legsR]⟩ ?_
 rintro k hk S ⟨X,rfl⟩ I hI
 have hgk:=hgd k
 by_cases hlt2:k<l.length
 ·have k1:(k:Int)<l.length:=by omega
  have k2:0≤(k:Int)∧(k:Int)<l.length:=by omega
  have k3:k * 3+3≤(legsC l).length:=by rw [zDp];omega
  have k4:IntKind.i64.wrap ((k:Int)+1)=(k+1:Nat):=wrap64 (by omega)
  have k5:=zEu l k hlt2
  have hx:=hlg _ (zX hlt2)
  obtain ⟨⟨hf,ht⟩,p1,p2⟩:=hlx k hlt2
  obtain ⟨s1,s2⟩:=Lv.leg_small hx hr
  have hnext:(Lv.legsR lo hi (l.take (k+1))).foldl Fw.addc W0=(Lv.legR lo hi l[k]).foldl Fw.addc ((Lv.legsR lo hi (l.take k)).foldl Fw.addc W0):=by
   unfold Lv.legsR
   rw [qF hlt2,List.flatMap_append,List.foldl_append];simp
  have hd:∀ c∈Lv.legR lo hi l[k],c.Ok Lv.big Lv.big n:=fun c hc=>hoks c (by rw [← hds];exact List.mem_flatMap.2 ⟨l[k],zX hlt2,hc⟩)
  generalize (Lv.legsR lo hi (l.take k)).foldl Fw.addc W0=W at *
  generalize l[k]=x at *
  obtain ⟨f,t,g⟩:=x
  simp only at hf ht p1 p2 s1 s2
  obtain ⟨f,rfl⟩:∃ f':Nat,f=f':=⟨f.toNat,by omega⟩
  obtain ⟨t,rfl⟩:∃ t':Nat,t=t':=⟨t.toNat,by omega⟩
  simp only [qO] at hf ht
  have hm1:-(g * lo)<far:=by show -(g * lo)<(1099511627776:Int);omega
  have hm2:g * hi<far:=by show g * hi<(1099511627776:Int);omega
  have hlo:=hr.l0
  have hhi:=hr.top
  have hmd:=hr.mid
  have w1:IntKind.i64.wrap (0 - lo) = -lo:=by rw [wrap64 (by omega)];omega
  have w2:IntKind.i64.wrap (-lo * g) = -(g * lo):=by rw [Int.neg_mul,yV];exact wrap64 (by omega)
  have w3:IntKind.i64.wrap (hi * g)=g * hi:=by rw [yV];exact wrap64 (by omega)
  have ef:(Lv.legR lo hi ⟨f,t,g⟩).foldl Fw.addc W=Fw.addc (Fw.addc W ⟨f,t,-(g * lo)⟩) ⟨t,f,g * hi⟩:=rfl
  have hg':=hgk.addc (hd ⟨f,t,-(g * lo)⟩ zP)
  obtain ⟨L2,hL2⟩:∃ L2,(B ++ (heapP W ++ (C9 ++ X))).length=L2:=⟨_,rfl⟩
  have hX:∀ y,B ++ (heapP W ++ (C9 ++ (X ++ [y])))=(B ++ (heapP W ++ (C9 ++ X))) ++ [y]:=fun y=>by simp
  have d1:∀ q,cellsAt (B ++ (heapP W ++ (C9 ++ (X ++ [some (.cells q)])))) L2=some q:=fun q=>by rw [hX,← hL2];exact zAf _ _
  have d2:∀ z B',setH (B ++ (heapP W ++ (C9 ++ (X ++ [z])))) L2 B'=B ++ (heapP W ++ (C9 ++ (X ++ [some B']))):=fun z B'=>by rw [hX,← hL2,zAs];simp
  have d1':∀ q Y,cellsAt (B ++ (heapP (Fw.addc W ⟨f,t,-(g * lo)⟩) ++ (C9 ++ (X ++ [some (.cells q),Y])))) L2=some q:=fun q Y=>by
   have e2:B ++ (heapP (Fw.addc W ⟨f,t,-(g * lo)⟩) ++ (C9 ++ (X ++ [some (.cells q),Y])))=(B ++ (heapP (Fw.addc W ⟨f,t,-(g * lo)⟩) ++ (C9 ++ X))) ++ [some (.cells q),Y]:=by simp
   have e3:(B ++ (heapP (Fw.addc W ⟨f,t,-(g * lo)⟩) ++ (C9 ++ X))).length=L2:=by rw [← hL2];simp [hg'.sq.1,hgk.sq.1]
   unfold cellsAt
   rw [e2,zQ (by omega),e3,yU];rfl
  have c9W:=c9 W hgk.sq
  have c9W':=c9 _ hg'.sq
  have hI:=hI hlt2
  simp only [go_sem,l38_2,zAa,k1,decide_true,k2,k3,k5,zAe,and_self,hL2,d1,d2,zAd,AV.cells,AV.one,zK,zL,zJ,splice,zI,zG,unA,zB,zD,zC,reduceIte,reduceCtorEq,zA]
  simp only [go_sem,c9W,d1,unA,w1,w2,zZ,zB,zD,zC,reduceIte,reduceCtorEq,zA]
  refine zAw (E:=E _) n108 (zCw hgk.sq lB t1 t2 hf ht hm1 (hgk.high _ _ hf ht) nt tk) (fun v S' hR => ?_) (fun v S' hR=>by cases hR.1)
  obtain ⟨e,Y,rfl⟩:=hR
  cases e
  simp only [go_sem,c9W',d1',w3,zB,zD,zC,reduceIte,reduceCtorEq,zA]
  refine zAw (E:=E _) n108 (zCw hg'.sq lB t1 t2 ht hf hm2 (hg'.high _ _ ht hf) nt tk) (fun v S' hR => ?_) (fun v S' hR=>by cases hR.1)
  obtain ⟨e,Y',rfl⟩:=hR
  cases e
  simp only [go_sem,k4,zB,zD,zC,reduceIte,reduceCtorEq,zA]
  exact hI _ ⟨_,by rw [hnext,ef]⟩
 have k1:¬ (k:Int)<l.length:=by omega
 have ek:k=l.length:=by omega
 subst ek
 rw [yH,hds] at hgk ⊢
 simp only [go_sem,l38_2,zAa,k1,decide_false,zB,zD,zC,reduceIte,reduceCtorEq,zA]
 clear hI hk k1 I hgd hlt2
 obtain ⟨W,hW⟩:∃ W,ds.foldl Fw.addc W0=W:=⟨_,rfl⟩
 rw [hW] at hgk ⊢
 have sq:=hgk.sq
 have mlow:∀ i j,i<n→j<n → -20000≤ent W i j:=hgk.low
 have msmall:∀ i j,i<n→j<n→ent W i j<far→ent W i j≤20000:=hgk.small
 have mhigh:∀ i j,i<n→j<n→ent W i j≤far:=hgk.high
 have h7:(7:Int) ^ n≤7 ^ 8:=Fw.pow_le (by decide) _ (by omega)
 refine zBs n (fun k=>[(1,legsA l),(2,.int .i64 lo),(3,.int .i64 hi),(4,.ref 0 0),(9,.ref L 0),(13,.int .i64 (r:Nat)),(16,.int .i64 (k:Nat))]) (fun k S => ∃ X,S=⟨B ++ (heapP (upto far n k W) ++ (C9 ++ X)),nt,tk⟩) rfl ⟨X,rfl⟩ ?_
 rintro c hc S ⟨X,rfl⟩ I hI
 by_cases hC:c<n
 ·have hC':(c:Int)<(n:Nat):=by omega
  have h6:IntKind.i64.wrap ((c:Int)+1)=(c+1:Nat):=wrap64 (by omega)
  have sqc:Sq n (upto far n c W):=sq.upto far n c
  simp only [go_sem,l38_3,cB,hC',decide_true,zB,zD,zC,reduceIte,reduceCtorEq,zA]
  refine zBs n (fun k=>[(1,legsA l),(2,.int .i64 lo),(3,.int .i64 hi),(4,.ref 0 0),(9,.ref L 0),(13,.int .i64 (r:Nat)),(16,.int .i64 c),(17,.int .i64 (k:Nat))]) (fun k S => ∃ X,S=⟨B ++ (heapP ((List.range k).foldl (row far n c) (upto far n c W)) ++ (C9 ++ X)),nt,tk⟩) rfl ⟨X,rfl⟩ ?_
  rintro p hp S ⟨X,rfl⟩ I2 hI2
  by_cases hP:p<n
  ·have hP':(p:Int)<(n:Nat):=by omega
   have hP6:IntKind.i64.wrap ((p:Int)+1)=(p+1:Nat):=wrap64 (by omega)
   have sqp:Sq n ((List.range p).foldl (row far n c) (upto far n c W)):=Fw.fold_ind (fun _ w=>Sq n w) _ _ _ sqc fun _ _ _ hw=>hw.row _ _ _ _
   simp only [go_sem,l38_4,cB,hP',decide_true,zB,zD,zC,reduceIte,reduceCtorEq,zA]
   refine zBs n (fun k=>[(1,legsA l),(2,.int .i64 lo),(3,.int .i64 hi),(4,.ref 0 0),(9,.ref L 0),(13,.int .i64 (r:Nat)),(16,.int .i64 c),(17,.int .i64 p),(18,.int .i64 (k:Nat))]) (fun k S => ∃ X,S=⟨B ++ (heapP ((List.range k).foldl (upd far c p) ((List.range p).foldl (row far n c) (upto far n c W))) ++ (C9 ++ X)),nt,tk⟩) rfl ⟨X,rfl⟩ ?_
   rintro b hb3 S ⟨X,rfl⟩ I3 hI3
   by_cases hB:b<n
   ·have hB':(b:Int)<(n:Nat):=by omega
    have hB6:IntKind.i64.wrap ((b:Int)+1)=(b+1:Nat):=wrap64 (by omega)
    have sqb:Sq n ((List.range b).foldl (upd far c p) ((List.range p).foldl (row far n c) (upto far n c W))):=Fw.fold_ind (fun _ w=>Sq n w) _ _ _ sqp fun _ _ _ hw=>hw.upd _ _ _ _
    have hnext:=hI3 hB
    rw [Fw.fold_succ] at hnext
    have low:=Fw.low_in (n:=n) (X:=20000) (W:=W) (by decide) sq far mlow (c:=c) (a:=p) (b:=b) hC hP (by omega)
    have hi2:=Lv.hi_in (f:=far) sq (by decide) msmall hC hP (b:=b) (by omega)
    have high:∀ i j,i<n→j<n→ent ((List.range b).foldl (upd far c p) ((List.range p).foldl (row far n c) (upto far n c W))) i j≤far:=fun i j hi hj =>
     yS (Fw.high_in (n:=n) (W:=W) sq far (c:=c) (a:=p) (b:=b) (by omega) (by omega) i j (.inr hP)) (mhigh i j hi hj)
    generalize (List.range b).foldl (upd far c p) ((List.range p).foldl (row far n c) (upto far n c W))=U at *
    have xa:0≤(p:Int)∧(p:Int)<(n:Nat):=by omega
    have xb:0≤(b:Int)∧(b:Int)<(n:Nat):=by omega
    have xc:0≤(c:Int)∧(c:Int)<(n:Nat):=by omega
    have rmp:=zBw (off:=5) (n:=n) hP
    have rmc:=zBw (off:=5) (n:=n) hC
    have rjp:=zCi (off:=5) (n:=n) hP
    have rjc:=zCi (off:=5) (n:=n) hC
    have pmp:=pair_M (C:=C9 ++ X) sqb hP lB
    have pmc:=pair_M (C:=C9 ++ X) sqb hC lB
    have pjp:=pair_J (C:=C9 ++ X) sqb hP lB
    have pjc:=pair_J (C:=C9 ++ X) sqb hC lB
    have emp:=ent_M sqb hP hC
    have emc:=ent_M sqb hC hB
    have ejp:=ent_J sqb hP hC
    have ejc:=ent_J sqb hC hB
    have c9U:=c9 U sqb X
    simp only [go_sem,l38_5,cB,hB',decide_true,zB,zD,zC,reduceIte,reduceCtorEq,zA]
    by_cases g1:ent U p c<far
    ·rw [show jo (ent U p c)=true from decide_eq_true g1] at ejp
     by_cases g2:ent U c b<far
     ·rw [show jo (ent U c b)=true from decide_eq_true g2] at ejc
      rw [mo_eq' g1] at emp
      rw [mo_eq' g2] at emc
      have l1:=low p c hP hC
      have l2:=low c b hC hB
      have u1:=hi2.col p hP g1
      have u2:=hi2.row b hB g2
      have tp:=Lv.two_pow (c:=c) (by omega)
      have e7:(7:Int) ^ 8=5764801:=by decide
      have hm:ent U p c+ent U c b<far:=by show _<(1099511627776:Int);omega
      have w1:IntKind.i64.wrap (ent U p c+ent U c b)=ent U p c+ent U c b:=wrap64 (by omega)
      have hupd:upd far c p U b=Fw.addc U ⟨p,b,ent U p c+ent U c b⟩:=by unfold Fw.upd;rw [if_pos ⟨g1,g2⟩];rfl
      rw [hupd] at hnext
      simp only [go_sem,c9U,xa,xb,xc,rmp,rmc,rjp,rjc,pmp,pmc,pjp,pjc,emp,emc,ejp,ejc,zAe,qR,and_self,w1,zB,zD,zC,reduceIte,reduceCtorEq,zA]
      refine zAw (E:=E _) n108 (zCw sqb lB t1 t2 hP hB hm (high _ _ hP hB) nt tk) (fun v S' hR => ?_) (fun v S' hR=>by cases hR.1)
      obtain ⟨e,Y,rfl⟩:=hR
      cases e
      simp only [go_sem,hB6,zB,zD,zC,reduceIte,reduceCtorEq,zA]
      exact hnext _ ⟨_,rfl⟩
     ·rw [show jo (ent U c b)=false from decide_eq_false g2] at ejc
      have hupd:upd far c p U b=U:=by unfold Fw.upd;rw [if_neg fun hh=>g2 hh.2]
      rw [hupd] at hnext
      simp only [go_sem,c9U,xa,xb,xc,rmp,rmc,rjp,rjc,pmp,pmc,pjp,pjc,ejp,ejc,zAe,qR,and_self,hB6,zB,zD,zC,reduceIte,reduceCtorEq,zA]
      exact hnext _ ⟨_,rfl⟩
    ·rw [show jo (ent U p c)=false from decide_eq_false g1] at ejp
     have hupd:upd far c p U b=U:=by unfold Fw.upd;rw [if_neg fun hh=>g1 hh.1]
     rw [hupd] at hnext
     simp only [go_sem,c9U,xa,xb,xc,rmp,rmc,rjp,rjc,pmp,pmc,pjp,pjc,ejp,zAe,qR,and_self,hB6,zB,zD,zC,reduceIte,reduceCtorEq,zA]
     exact hnext _ ⟨_,rfl⟩
   ·have hB':¬ (b:Int)<(n:Nat):=by omega
    simp only [go_sem,l38_5,cB,hB',decide_false,hP6,zB,zD,zC,reduceIte,reduceCtorEq,zA]
    have:=hI2 hP
    rw [Fw.fold_succ] at this
    rw [show b=n by omega]
    exact this _ ⟨_,rfl⟩
  ·have hP':¬ (p:Int)<(n:Nat):=by omega
   simp only [go_sem,l38_4,cB,hP',decide_false,h6,zB,zD,zC,reduceIte,reduceCtorEq,zA]
   have:=hI hC
   rw [show upto far n (c+1) W=stage far n (upto far n c W) c from Fw.fold_succ _ _ _] at this
   rw [show p=n by omega]
   exact this _ ⟨_,rfl⟩
 have hC':¬ (c:Int)<(n:Nat):=by omega
 have hcm:c=n:=by omega
 rw [hcm]
 rw [hcm] at hC'
 simp only [go_sem,l38_3,cB,hC',decide_false,zB,zD,zC,reduceIte,reduceCtorEq,zA]
 clear hI hc hC hC' I mlow msmall h7 hcm
 have sqV:Sq n (upto far n n W):=sq.upto far n n
 have hdg:∀ i,i<n→ent (upto far n n W) i i<far:=fun i hi=>by
  have h1:=Fw.upto_le sq far n i i
  have h2:=hgk.diag i hi
  show _<(1099511627776:Int)
  omega
 have hlast:(∀ i,i<n→0≤ent (upto far n n W) i i)→Fw.Good far Lv.big Lv.big n (upto far n n W)∧Fw.closed far n (ds.foldl Fw.addc V)=some (upto far n n W):=fun hpos=>by
  rcases hst0 with ⟨_,rfl⟩ | ⟨_,h⟩
  ·have hcl:Fw.closed far n (ds.foldl Fw.addc W0)=some (upto far n n W):=by
    rw [hW]
    unfold Fw.closed
    rw [if_pos]
    rw [yG]
    intro i hi
    exact decide_eq_true (hpos i (List.mem_range.1 hi))
   exact ⟨(hagain _ hcl).1,hcl⟩
  ·obtain ⟨h1,h2⟩:=hagain _ h
   rw [hW] at h2
   rw [h2]
   exact ⟨h1,h⟩
 have hneg:(∃ i,i<n∧ent (upto far n n W) i i<0)→carryB s l lo hi=false:=fun ⟨i,hi,h⟩=>by
  rcases hst0 with ⟨_,rfl⟩ | ⟨_,h'⟩
  ·rw [← hlay]
   show (Fw.closed far n (ds.foldl Fw.addc W0)).isSome=false
   rw [hW]
   unfold Fw.closed
   rw [if_neg]
   ·rfl
   ·rw [yG]
    intro hh
    have:=of_decide_eq_true (hh i (List.mem_range.2 hi))
    omega
  ·obtain ⟨h1,h2⟩:=hagain _ h'
   rw [hW] at h2
   rw [h2,h1.diag i hi] at h
   omega
 generalize upto far n n W=U at *
 refine zBk n (fun k => ∀ i,i<k→0≤ent U i i) (fun k=>[(1,legsA l),(2,.int .i64 lo),(3,.int .i64 hi),(4,.ref 0 0),(9,.ref L 0),(13,.int .i64 (r:Nat)),(19,.int .i64 (k:Nat))]) (fun k=>⟨B ++ (heapP U ++ (C9 ++ X)),nt,tk⟩) (fun i hi=>absurd hi (yA _)) rfl rfl ?_
 intro i hi' hP I hI
 by_cases hC:i<n
 ·have hC':(i:Int)<(n:Nat):=by omega
  have h6:IntKind.i64.wrap ((i:Int)+1)=(i+1:Nat):=wrap64 (by omega)
  have xa:0≤(i:Int)∧(i:Int)<(n:Nat):=by omega
  have rm:=zBw (off:=5) (n:=n) hC
  have pm:=pair_M (C:=C9 ++ X) sqV hC lB
  have em:=ent_M sqV hC hC
  have c9U:=c9 U sqV X
  rw [mo_eq' (hdg i hC)] at em
  simp only [go_sem,l38_6,cB,hC',decide_true,c9U,xa,rm,pm,em,zAe,qR,and_self,zB,zD,zC,reduceIte,reduceCtorEq,zA]
  by_cases g:ent U i i<0
  ·simp only [go_sem,g,decide_true,Tryz.f38,zB,zD,zC,reduceIte,reduceCtorEq,zA]
   rw [hneg ⟨i,hC,g⟩];all_goals rfl
  ·simp only [go_sem,g,decide_false,h6,zB,zD,zC,reduceIte,reduceCtorEq,zA]
   refine hI hC fun j hj => ?_
   by_cases e:j=i
   ·subst e;omega
   ·exact hP j (by omega)
 ·have hC':¬ (i:Int)<(n:Nat):=by omega
  obtain ⟨z1,z2⟩:=hlast fun j hj=>hP j (by omega)
  simp only [go_sem,l38_6,cB,hC',decide_false,kr4,zB,zD,zC,reduceIte,reduceCtorEq,zA]
  exact zAh (N2 - (r+1)) (by omega) ⟨r+1,U,X,hlt,rfl,rfl,rfl,z1,.inr ⟨by omega,z2⟩⟩
end Go.Av.Lx
end
section
set_option maxHeartbeats 2000000
namespace Go.Av.Lx
open Go Go.Av Go.Av.Tb Go.Av.Fx Go.Proofs
open Go.Lv (Sight Survey Sw Sv SightOk Stp zBv walkRow rowStep rowOne)
open Go.Fw (Sq ent Bd Mat)
theorem rem_nat {x y:Nat} (h:0<y):intOp .rem .i64 (x:Int) (y:Int)=some (.int .i64 (x % y:Nat)):=by
 show (if (y:Int)=0 then none else some (AV.int .i64 (Int.tmod x y)))=_
 rw [if_neg (by omega)];rfl
theorem quo_nat {x y:Nat} (h:0<y) (hx:x≤1000000000):intOp .quo .i64 (x:Int) (y:Int)=some (.int .i64 (x / y:Nat)):=by
 show (if (y:Int)=0 then none else some (AV.int .i64 (IntKind.i64.wrap (Int.tdiv x y))))=_
 rw [if_neg (by omega)]
 have e:Int.tdiv (x:Int) y=((x / y:Nat):Int):=rfl
 have:x / y≤x:=Nat.div_le_self _ _
 rw [e]
 generalize x / y=q at *
 rw [wrap64 (by omega)]
theorem divisor_pc (a b:Nat):PC Tryz.prog 148 [.int .i64 a,.int .i64 b] (.pure (.int .i64 (Nat.gcd a b:Nat))):=by
 refine PC.of_empty (AC.run (E_ok _) mix Tryz.func148 m148 rfl rfl rfl (zE rfl) ?_) (by simp [bndL,AV.bnd]) rfl
 simp only [go_sem,zB,zD,zC,reduceIte,reduceCtorEq,zA]
 refine zAt (fun m ts' S' => ∃ x y:Nat,m=y∧ts'=[(0,.int .i64 x),(1,.int .i64 y)]∧S'=St.empty∧Nat.gcd x y=Nat.gcd a b) b ⟨a,b,rfl,rfl,rfl,rfl⟩ ?_
 rintro m ts' S' ⟨x,y,rfl,rfl,rfl,hg⟩
 by_cases h:0<m
 ·have h1:(m:Int) > 0:=by omega
  have hq:=rem_nat (x:=x) h
  simp only [go_sem,l148_0,h1,decide_true,hq,zB,zD,zC,reduceIte,reduceCtorEq,zA]
  refine zAh (x % m) (Nat.mod_lt _ h) ⟨m,x % m,rfl,rfl,rfl, ?_⟩
  rw [← hg,Nat.gcd_comm x m,Nat.gcd_rec m x,Nat.gcd_comm]
 ·have h1:¬ (m:Int) > 0:=by omega
  have e:m=0:=by omega
  subst e
  simp only [go_sem,l148_0,h1,decide_false,Tryz.f148,zB,zD,zC,reduceIte,reduceCtorEq,zA]
  rw [← hg,Nat.gcd_zero_right]
theorem wS_bnd (W:Mat):(wS W).bnd 0 0=true:=by
 have:bndL 0 0 (W.map sl)=true:=zEh _ (fun _=>by simp [AV.bnd]) W
 simp [AV.bnd,this]
def rowsF (f:Nat→Nat) (m n:Nat):List AV:=(List.range m).map fun i=>.sref (f i) 0 n n
@[simp] theorem rowsF_len (f:Nat→Nat) (m n:Nat):(rowsF f m n).length=m:=by simp [rowsF]
theorem rowsF_get {f:Nat→Nat} {m n i:Nat} (h:i<m):(rowsF f m n)[i]? = some (.sref (f i) 0 n n):=by simp [rowsF,qP h]
theorem rowsF_snoc (f:Nat→Nat) (m n:Nat):rowsF f m n ++ [.sref (f m) 0 n n]=rowsF f (m+1) n:=by simp [rowsF,yK]
theorem cells_block {h:List (Option Blk)} {i:Nat} {l:List AV} (hc:cellsAt h i=some l):h[i]? = some (some (.cells l)):=by
 unfold cellsAt at hc
 split at hc
 ·rename_i e;cases hc;exact e
 ·cases hc
theorem zEk {h:List (Option Blk)} {i:Nat} {l:List AV} (hc:cellsAt h i=some l):i<h.length:=by
 rcases zV i h.length with h' | h'
 ·exact h'
 ·have:=cells_block hc
  rw [zO h'] at this;cases this
theorem zCc {h:List (Option Blk)} {i j:Nat} {B:Blk} (hj:j<h.length) (hij:i≠j):cellsAt (setH h j B) i=cellsAt h i:=by
 rw [zEb hj]
 unfold cellsAt
 rw [yB,if_neg (fun e=>hij e.symm)]
theorem cells_self {h:List (Option Blk)} {j:Nat} {l:List AV} (hj:j<h.length):cellsAt (setH h j (.cells l)) j=some l:=by
 rw [zEb hj]
 unfold cellsAt
 rw [yB,if_pos rfl,if_pos hj]
theorem setH_len {h:List (Option Blk)} {j:Nat} {B:Blk} (hj:j<h.length):(setH h j B).length=h.length:=by rw [zEb hj,List.length_set]
theorem rowsF_frz {h:List (Option Blk)} {f:Nat→Nat} {n:Nat} {rows:Nat→List Int} (hl:∀ i,i<n→(rows i).length=n) (hc:∀ i,i<n→cellsAt h (f i)=some (ints (rows i))) (t:Tail):Frz h (.slice (rowsF f n n) n t) (wS ((List.range n).map rows)):=by
 show Frz h _ (.slice (((List.range n).map rows).map sl) ((List.range n).map rows).length .unk)
 rw [show ((List.range n).map rows).length=n by simp]
 refine .slice _ _ _ _ (by simp) fun j x y hx hy => ?_
 have hj:j<n:=by
  rcases zV j n with h' | h'
  ·exact h'
  ·rw [zO (by simpa using h')] at hx;cases hx
 rw [rowsF_get hj] at hx
 simp only [xA] at hx
 subst hx
 rw [List.map_map,qC,qP hj] at hy
 simp only [zZ,xA] at hy
 subst hy
 have:=Frz.row (h:=h) (f j) 0 n n 1 _ (cells_block (hc j hj)) (by simp [hl j hj]) (zN _)
 rw [List.drop_zero,yO (by simp [hl j hj])] at this
 show Frz h _ (.slice (ints (rows j)) (rows j).length .unk)
 rw [hl j hj];exact this
theorem still_pc (s:Survey) (h:Sw s):PC Tryz.prog 146 [surA s] (.pure (wS ((List.range (Lv.num s)).map (zBv (Lv.num s))))):=by
 refine PC.of_frz (AC.run (E_ok _) mix Tryz.func146 m146 rfl rfl rfl (zE rfl) ?_) (by simp [bndL,AV.bnd]) (wS_bnd _)
 obtain ⟨n,hn⟩:∃ n,n=Lv.num s:=⟨_,rfl⟩
 have hst:s.stations=(n:Int):=by have:=h.st;rw [hn];show _=((s.stations.toNat:Nat):Int);omega
 have hn2:2≤n∧n≤8:=by have:=h.st;omega
 rw [← hn]
 simp only [go_sem,boxA,hst,zB,zD,zC,reduceIte,reduceCtorEq,zA]
 refine zAt (fun m ts' S' => ∃ a V nt tk Hh,a≤n∧m=n - a∧ts'=[(1,.ref 0 0),(3,V),(6,.int .i64 n),(7,.int .i64 (a:Nat))]∧S'=⟨Hh,nt,tk⟩∧cellsAt Hh 0=some [.int .i64 n,.slice (sgts s.sights) s.sights.length .unk]∧Hh.length=1+a∧(∀ i,i<a→cellsAt Hh (1+i)=some (ints (zBv n i)))∧Own (rowsF (1 + ·) a n) a V nt tk) n ⟨0,.nilS,0,[],_,qN _,rfl,rfl,rfl,rfl,rfl,fun i hi=>absurd hi (yA _),Own.nil _ _⟩ ?_
 rintro m ts' S' ⟨a,V,nt,tk,Hh,ha,rfl,rfl,rfl,c0,hlen,hrows,ho⟩
 by_cases hlt:a<n
 ·have h1:(a:Int)<n:=by omega
  have h4:IntKind.i64.wrap ((a:Int)+1)=(a+1:Nat):=wrap64 (by omega)
  have lm:(rowsF (1 + ·) a n).length=a * 1:=by simp
  have cax:=fun X=>zAp c0 X
  simp only [go_sem,l146_0,h1,decide_true,c0,zB,zD,zC,reduceIte,reduceCtorEq,zA]
  refine ca n150 (repeat_pc (-1099511627776) n (by omega) (by omega)) (SubL.cons (Sub.unk _ 1 .exact) (SubL.refl _)) ?_
  simp only [go_sem,hlen,zAa,zB,zD,zC,reduceIte,reduceCtorEq,zA]
  refine zEp (lx:=[.sref (1+a) 0 n n]) rowRows ho lm rfl (by decide) rfl (by omega) fun V' tk' g => ?_
  have gt:=g.tok
  have go:=g.own
  rw [rowsF_snoc (1 + ·) a n] at gt go
  have xa:0≤(a:Int)∧(a:Int)<(a+1:Nat):=by omega
  have xb:0≤(a:Int)∧(a:Int)<(n:Nat):=by omega
  have rg:(rowsF (1 + ·) (a+1) n)[a]? = some (.sref (1+a) 0 n n):=rowsF_get (f:=(1 + ·)) (by omega)
  have ce:cellsAt (Hh ++ [some (.cells (ints (List.replicate n (-1099511627776))))]) (1+a)=some (ints (List.replicate n (-1099511627776))):=by rw [← hlen];exact zAf _ _
  have se:setH (Hh ++ [some (.cells (ints (List.replicate n (-1099511627776))))]) (1+a) (.cells ((ints (List.replicate n (-1099511627776))).set a (.int .i64 0)))=Hh ++ [some (.cells (ints (zBv n a)))]:=by rw [← hlen,zAs,zCs];rfl
  have hk1:a+1≤n:=hlt
  rw [gt]
  simp only [go_sem,xa,xb,rg,zAe,qR,and_self,ce,zB,zD,zC,reduceIte,reduceCtorEq,zA]
  rw [← gt]
  simp only [go_sem,AV.cells,AV.one,zK,zL,zJ,splice,zCf,List.length_replicate,zAd,hk1,se,h4,zB,zD,zC,reduceIte,reduceCtorEq,zA]
  refine zAh (n - (a+1)) (by omega) ⟨a+1,V',nt+1,tk',_,hlt,rfl,rfl,rfl,cax _,by simp [hlen];omega,fun i hi => ?_,go⟩
  by_cases e:i=a
  ·subst e;rw [← hlen];exact zAf _ _
  ·exact zAp (hrows i (by omega)) _
 ·have h1:¬ (a:Int)<n:=by omega
  have e:a=n:=by omega
  subst e
  simp only [go_sem,l146_0,h1,decide_false,Tryz.f146,zB,zD,zC,reduceIte,reduceCtorEq,zA]
  have hV:∃ t,V=.slice (rowsF (1 + ·) a a) a t:=by
   rcases ho with ⟨_,_,h0⟩ | ⟨k,hk,_⟩
   ·omega
   ·exact ⟨_,hk⟩
  obtain ⟨t,rfl⟩:=hV
  exact ⟨_,rfl,rowsF_frz (fun i hi=>by simp [zBv]) hrows t⟩
end Go.Av.Lx
end
section
set_option maxHeartbeats 2000000
namespace Go.Av.Lx
open Go Go.Av Go.Av.Tb Go.Av.Fx Go.Proofs
open Go.Lv (Sight Survey Sw Sv SightOk Stp zBv walkRow rowStep rowOne)
open Go.Fw (Sq ent Bd Mat)
def posW (m i:Nat):Nat:=1+i * (m+1)
theorem posW_lt {m i a:Nat} (h:i<a):posW m i+(m+1)≤posW m a:=by
 unfold posW
 have:(i+1) * (m+1)≤a * (m+1):=Nat.mul_le_mul_right _ h
 rw [Nat.add_mul] at this
 omega
theorem rowOne_len (b r:List Int) (u v:Nat) (m:Int):(rowOne b r u v m).length=r.length:=by
 unfold rowOne;split
 ·rw [List.length_set]
 ·rfl
theorem rowStep_len (b r:List Int) (x:Sight):(rowStep b r x).length=r.length:=by unfold rowStep;rw [rowOne_len,rowOne_len]
theorem zFm (b:List Int):∀ (l:List Sight) (r:List Int),(l.foldl (rowStep b) r).length=r.length
 | [],r=>rfl
 | x :: l,r=>by rw [List.foldl_cons,zFm b l,rowStep_len]
structure WalkH (Hh:List (Option Blk)) (s:Survey) (rows:Nat→List Int) (m a:Nat) (r:List Int) (L:Nat):Prop where
 c0:cellsAt Hh 0=some [.int .i64 (Lv.num s),.slice (sgts s.sights) s.sights.length .unk]
 rows:∀ i,i<a→cellsAt Hh (posW m i)=some (ints (rows i))
 cur:cellsAt Hh (posW m a)=some (ints r)
 len:Hh.length=L
theorem WalkH.app {Hh:List (Option Blk)} {s:Survey} {rows:Nat→List Int} {m a:Nat} {r:List Int} {L:Nat} (h:WalkH Hh s rows m a r L) (y:Option Blk):WalkH (Hh ++ [y]) s rows m a r (L+1):=
 ⟨zAp h.c0 _,fun i hi=>zAp (h.rows i hi) _,zAp h.cur _,by simp [h.len]⟩
theorem WalkH.put {Hh:List (Option Blk)} {s:Survey} {rows:Nat→List Int} {m a:Nat} {r:List Int} {L:Nat} (h:WalkH Hh s rows m a r L) (r':List Int):WalkH (setH Hh (posW m a) (.cells (ints r'))) s rows m a r' L:=by
 have hl:=zEk h.cur
 refine ⟨?_,fun i hi => ?_,cells_self hl,by rw [setH_len hl];exact h.len⟩
 ·rw [zCc hl (by unfold posW;omega)];exact h.c0
 ·have:=posW_lt (m:=m) hi
  rw [zCc hl (by omega)];exact h.rows i hi
structure WalkM (n:Nat) (W:Mat):Prop where
 sq:Sq n W
 low:∀ i v,i<n→v<n → -far≤ent W i v
 high:∀ i v,i<n→v<n→ent W i v≤1000000
theorem walk_bd {b:List Int} {n:Nat} (hb:∀ v,v<n → -far≤b.getD v 0∧b.getD v 0≤1000000) {r:List Int} (hr:∀ v,v<r.length → -far≤r.getD v 0∧r.getD v 0≤1001000) (hl:r.length=n) {x:Sight} {k:Int} (hx:SightOk k x) (hk:k.toNat=n) :
  ∀ v,v<(rowStep b r x).length → -far≤(rowStep b r x).getD v 0∧(rowStep b r x).getD v 0≤1001000:=by
 have h1:=hx.frm;have h2:=hx.to;have h3:=hx.rise
 have one:∀ (r:List Int) (u v:Nat) (m:Int),u<n → -1000≤m→m≤1000→r.length=n→(∀ v,v<r.length → -far≤r.getD v 0∧r.getD v 0≤1001000)→v<n → ∀ w,w<(rowOne b r u v m).length → -far≤(rowOne b r u v m).getD w 0∧(rowOne b r u v m).getD w 0≤1001000:=by
  intro r u v m hu m1 m2 hl hr hv w hw
  unfold rowOne at hw ⊢
  split at hw
  ·rename_i g
   rw [if_pos g,Lv.getD_set (by omega)]
   rw [List.length_set] at hw
   split
   ·have a:=hr v (by omega)
    have c:=hb u hu
    omega
   ·exact hr w hw
  ·rename_i g
   rw [if_neg g];exact hr w hw
 unfold rowStep
 refine one _ _ _ _ (by omega) (by omega) (by omega) (by rw [rowOne_len];exact hl) (one _ _ _ _ (by omega) (by omega) (by omega) hl hr (by omega)) (by omega)
theorem walks_pc (s:Survey) (h:Sw s) (hl:s.sights.length≤100) {W:Mat} (hW:WalkM (Lv.num s) W):PC Tryz.prog 147 [surA s,wS W] (.pure (wS ((List.range (Lv.num s)).map fun a=>walkRow s (W.getD a [])))):=by
 refine PC.of_frz (AC.run (E_ok _) mix Tryz.func147 m147 rfl rfl rfl (zE rfl) ?_) (by simp only [bndL,wS_bnd];simp [AV.bnd,bndL]) (wS_bnd _)
 obtain ⟨n,hn⟩:∃ n,n=Lv.num s:=⟨_,rfl⟩
 have hst:s.stations=(n:Int):=by have:=h.st;rw [hn];show _=((s.stations.toNat:Nat):Int);omega
 have hn2:2≤n∧n≤8:=by have:=h.st;omega
 rw [← hn] at hW ⊢
 obtain ⟨m,hm⟩:∃ m,s.sights.length=m:=⟨_,rfl⟩
 simp only [go_sem,boxA,hst,zB,zD,zC,reduceIte,reduceCtorEq,zA]
 refine zAt (fun q ts' S' => ∃ a V nt tk Hh,a≤n∧q=n - a∧ts'=[(1,wS W),(2,.ref 0 0),(5,V),(12,.int .i64 n),(13,.int .i64 (a:Nat))]∧S'=⟨Hh,nt,tk⟩∧cellsAt Hh 0=some [.int .i64 n,.slice (sgts s.sights) s.sights.length .unk]∧Hh.length=posW m a∧(∀ i,i<a→cellsAt Hh (posW m i)=some (ints (walkRow s (W.getD i []))))∧Own (rowsF (posW m) a n) a V nt tk) n ⟨0,.nilS,0,[],_,qN _,rfl,rfl,rfl,rfl,by simp [posW],fun i hi=>absurd hi (yA _),Own.nil _ _⟩ ?_
 rintro q ts' S' ⟨a,V,nt,tk,Hh,ha,rfl,rfl,rfl,c0,hlen,hrows,ho⟩
 by_cases hlt:a<n
 rotate_left
 ·have h1:¬ (a:Int)<n:=by omega
  have e:a=n:=by omega
  subst e
  simp only [go_sem,l147_0,h1,decide_false,Tryz.f147,zB,zD,zC,reduceIte,reduceCtorEq,zA]
  have hV:∃ t,V=.slice (rowsF (posW m) a a) a t:=by
   rcases ho with ⟨_,_,h0⟩ | ⟨k,hk,_⟩
   ·omega
   ·exact ⟨_,hk⟩
  obtain ⟨t,rfl⟩:=hV
  refine ⟨_,rfl,rowsF_frz (fun i hi => ?_) hrows t⟩
  unfold walkRow
  rw [zFm];simp [← hn]
 have h1:(a:Int)<n:=by omega
 have h4:IntKind.i64.wrap ((a:Int)+1)=(a+1:Nat):=wrap64 (by omega)
 have lm:(rowsF (posW m) a n).length=a * 1:=by simp
 simp only [go_sem,l147_0,h1,decide_true,c0,zB,zD,zC,reduceIte,reduceCtorEq,zA]
 refine ca n150 (repeat_pc (-1099511627776) n (by omega) (by omega)) (SubL.cons (Sub.unk _ 1 .exact) (SubL.refl _)) ?_
 simp only [go_sem,hlen,zAa,zB,zD,zC,reduceIte,reduceCtorEq,zA]
 refine zEp (lx:=[.sref (posW m a) 0 n n]) rowRows ho lm rfl (by decide) rfl (by omega) fun V' tk' g => ?_
 have gt:=g.tok
 have go:=g.own
 rw [rowsF_snoc] at gt go
 subst gt
 have w0:WalkH (Hh ++ [some (.cells (ints (List.replicate n (-1099511627776))))]) s (fun i=>walkRow s (W.getD i [])) m a (List.replicate n (-far)) (posW m a+1):=
  ⟨by rw [← hn];exact zAp c0 _,fun i hi=>zAp (hrows i hi) _,by rw [← hlen];exact zAf _ _,by simp [hlen]⟩
 generalize Hh ++ [some (.cells (ints (List.replicate n (-1099511627776))))]=Hi at *
 have d0:=w0.c0
 rw [← hn] at d0
 simp only [go_sem,d0,zAa,zB,zD,zC,reduceIte,reduceCtorEq,zA]
 clear hrows c0 hlen ho g
 have hwa:(W.map sl)[a]? = some (sl (W.getD a [])):=zDj hW.sq hlt
 have hbl:(W.getD a []).length=n:=hW.sq.getD hlt
 have hWl:W.length=n:=hW.sq.1
 have hbb:∀ v,v<n → -far≤(W.getD a []).getD v 0∧(W.getD a []).getD v 0≤1000000:=fun v hv=>⟨hW.low a v hlt hv,hW.high a v hlt hv⟩
 obtain ⟨b,hb⟩:∃ b,W.getD a []=b:=⟨_,rfl⟩
 have hrowEq:walkRow s b=s.sights.foldl (rowStep b) (List.replicate n (-far)):=by unfold walkRow;rw [hn];rfl
 rw [hb] at hwa hbl hbb
 have hrb:∀ j,j≤m → ∀ v,v<((s.sights.take j).foldl (rowStep b) (List.replicate n (-far))).length → -far≤((s.sights.take j).foldl (rowStep b) (List.replicate n (-far))).getD v 0∧((s.sights.take j).foldl (rowStep b) (List.replicate n (-far))).getD v 0≤1001000:=by
  intro j
  induction j with
  | zero =>
   intro _ v hv
   rw [List.take_zero,List.foldl_nil] at hv ⊢
   rw [List.length_replicate] at hv
   have:(List.replicate n (-far)).getD v 0 = -far:=by rw [zH,qW,if_pos hv];rfl
   rw [this]
   have:far=1099511627776:=rfl
   omega
  | succ j ih =>
   intro hj
   rw [zDh _ _ _ _ (by omega)]
   exact walk_bd hbb (ih (by omega)) (by rw [zFm];simp) (h.sights _ (zX (by omega))) hn.symm
 refine zBs m (fun j=>[(1,wS W),(2,.ref 0 0),(5,.slice (rowsF (posW m) (a+1) n) (a+1) (.tok nt)),(12,.int .i64 n),(13,.int .i64 (a:Nat)),(6,.int .i64 (a:Nat)),(24,.slice (sgts s.sights) s.sights.length .unk),(25,.int .i64 s.sights.length),(26,.int .i64 (j:Nat))])
  (fun j S => ∃ Hh,S=⟨Hh,nt+1,tk'⟩∧WalkH Hh s (fun i=>walkRow s (W.getD i [])) m a ((s.sights.take j).foldl (rowStep b) (List.replicate n (-far))) (posW m a+1+j)) rfl ⟨_,rfl,w0⟩ ?_
 rintro j hj S ⟨Hj,rfl,wj⟩ I hI
 by_cases hlt2:j<m
 rotate_left
 ·have k1:¬ (j:Int)<s.sights.length:=by omega
  have ej:j=m:=by omega
  subst ej
  simp only [go_sem,l147_1,k1,decide_false,h4,zB,zD,zC,reduceIte,reduceCtorEq,zA]
  refine zAh (n - (a+1)) (by omega) ⟨a+1,_,nt+1,tk',Hj,hlt,rfl,rfl,rfl,by rw [hn];exact wj.c0,by rw [wj.len];unfold posW;rw [Nat.add_mul];omega,fun i hi => ?_,go⟩
  by_cases e:i=a
  ·subst e
   rw [hb,hrowEq]
   have:=wj.cur
   rw [← hm,yH] at this
   rw [← hm];exact this
  ·exact wj.rows i (by omega)
 have k1:(j:Int)<s.sights.length:=by omega
 have k2:0≤(j:Int)∧(j:Int)<s.sights.length:=by omega
 have k3:j * 4+4≤(sgts s.sights).length:=by rw [zBh];omega
 have h6:IntKind.i64.wrap ((j:Int)+1)=(j+1:Nat):=wrap64 (by omega)
 have k5:=zCj s.sights j (by omega)
 have hx:=h.sights _ (zX (by omega:j<s.sights.length))
 have hnext:(s.sights.take (j+1)).foldl (rowStep b) (List.replicate n (-far))=rowStep b ((s.sights.take j).foldl (rowStep b) (List.replicate n (-far))) s.sights[j]:=zDh _ _ _ _ (by omega)
 have hrbj:=hrb j (by omega)
 have hrl:((s.sights.take j).foldl (rowStep b) (List.replicate n (-far))).length=n:=by rw [zFm];simp
 have hI:=hI hlt2
 generalize (s.sights.take j).foldl (rowStep b) (List.replicate n (-far))=r at *
 generalize s.sights[j]=x at *
 obtain ⟨f,t,ρ,o⟩:=x
 have x1:=hx.frm;have x2:=hx.to;have x3:=hx.rise
 simp only at x1 x2 x3
 obtain ⟨f,rfl⟩:∃ f':Nat,f=f':=⟨f.toNat,by omega⟩
 obtain ⟨t,rfl⟩:∃ t':Nat,t=t':=⟨t.toNat,by omega⟩
 have hf:f<n:=by omega
 have ht:t<n:=by omega
 have hlen:=wj.len
 have w1:=wj.app (some (.cells [.int .i64 (f:Nat),.int .i64 (t:Nat),.int .i64 ρ,.int .i64 o]))
 have cx:=fun l=>zAf Hj l
 have sx:=fun x B=>zAs Hj x B
 have hpos:posW m a<Hj.length:=zEk wj.cur
 have xw:0≤(a:Int)∧(a:Int)<(W.length:Int):=by omega
 have xr:0≤(a:Int)∧(a:Int)<(a+1:Nat):=by omega
 have xf:0≤(f:Int)∧(f:Int)<(b.length:Int):=by omega
 have xt:0≤(t:Int)∧(t:Int)<(b.length:Int):=by omega
 have xfn:0≤(f:Int)∧(f:Int)<(n:Int):=by omega
 have xtn:0≤(t:Int)∧(t:Int)<(n:Int):=by omega
 have gbf:b[f]? = some (b.getD f 0):=by rw [zH,zF (by omega)];rfl
 have gbt:b[t]? = some (b.getD t 0):=by rw [zH,zF (by omega)];rfl
 have rg:(rowsF (posW m) (a+1) n)[a]? = some (.sref (posW m a) 0 n n):=rowsF_get (by omega)
 have bf:=hbb f hf
 have bt:=hbb t ht
 have far_eq:far=1099511627776:=rfl
 have w1':IntKind.i64.wrap (b.getD f 0+ρ)=b.getD f 0+ρ:=wrap64 (by omega)
 have w2:IntKind.i64.wrap (b.getD t 0 - ρ)=b.getD t 0 - ρ:=wrap64 (by omega)
 have kt:t+1≤n:=ht
 have kf:f+1≤n:=hf
 simp only [go_sem,l147_1,k1,decide_true,k2,k3,k5,cx,sx,zAd,AV.cells,AV.one,zK,zL,zJ,splice,zI,zG,and_self,zAe,qR,zB,zD,zC,reduceIte,reduceCtorEq,zA]
 by_cases g1:b.getD f 0 > -far
 ·have g1':b.getD f 0 > -1099511627776:=g1
  have hone:rowOne b r f t ρ=r.set t (max (r.getD t 0) (b.getD f 0+ρ)):=if_pos g1
  have hmx1:(if b.getD f 0+ρ > r.getD t 0 then b.getD f 0+ρ else r.getD t 0)=max (r.getD t 0) (b.getD f 0+ρ):=by split <;> omega
  have hw2:=w1.put (r.set t (max (r.getD t 0) (b.getD f 0+ρ)))
  have gt1:r[t]? = some (r.getD t 0):=by rw [zH,zF (by omega)];rfl
  have cu1:=w1.cur
  simp only [go_sem,hwa,xw,xf,xt,xfn,xtn,gbf,zAx,zZ,cx,xr,rg,cu1,gt1,g1',decide_true,w1',zAa,maxsA,hmx1,kt,zCf,hrl,zCs,zAd,AV.cells,AV.one,zK,zL,zJ,splice,zI,zG,and_self,zAe,qR,zB,zD,zC,reduceIte,reduceCtorEq,zA]
  have cx2:cellsAt (setH (Hj ++ [some (.cells [.int .i64 (f:Nat),.int .i64 (t:Nat),.int .i64 ρ,.int .i64 o])]) (posW m a) (.cells (ints (r.set t (max (r.getD t 0) (b.getD f 0+ρ)))))) Hj.length=some [.int .i64 (f:Nat),.int .i64 (t:Nat),.int .i64 ρ,.int .i64 o]:=by
   rw [zCc (by simp;omega) (by omega)];exact cx _
  have hrl2:(r.set t (max (r.getD t 0) (b.getD f 0+ρ))).length=n:=by rw [List.length_set];exact hrl
  generalize setH (Hj ++ [some (.cells [.int .i64 (f:Nat),.int .i64 (t:Nat),.int .i64 ρ,.int .i64 o])]) (posW m a) (.cells (ints (r.set t (max (r.getD t 0) (b.getD f 0+ρ)))))=H2 at *
  generalize r.set t (max (r.getD t 0) (b.getD f 0+ρ))=r2 at *
  by_cases g2:b.getD t 0 > -far
  ·have g2':b.getD t 0 > -1099511627776:=g2
   have hmx:(if b.getD t 0 - ρ > (r2).getD f 0 then b.getD t 0 - ρ else (r2).getD f 0)=max ((r2).getD f 0) (b.getD t 0 + -ρ):=by split <;> omega
   have hw3:=hw2.put ((r2).set f (max ((r2).getD f 0) (b.getD t 0 + -ρ)))
   have hstep:rowStep b r ⟨f,t,ρ,o⟩=(r2).set f (max ((r2).getD f 0) (b.getD t 0 + -ρ)):=by
    show rowOne b (rowOne b r f t ρ) t f (-ρ)=_
    rw [hone]
    exact if_pos g2
   have gf:(r2)[f]? = some ((r2).getD f 0):=by rw [zH,zF (by omega)];rfl
   have cu:=hw2.cur
   have kf:f+1≤n:=hf
   simp only [go_sem,hwa,xw,xf,xt,xfn,xtn,gbt,zAx,zZ,cx2,xr,rg,cu,gf,g2',decide_true,w2,zAa,maxsA,hmx,kf,zCf,hrl2,zCs,h6,zAd,AV.cells,AV.one,zK,zL,zJ,splice,zI,zG,and_self,zAe,qR,zB,zD,zC,reduceIte,reduceCtorEq,zA]
   exact hI _ ⟨_,rfl,by rw [hnext,hstep];exact hw3⟩
  ·have g2':¬ b.getD t 0 > -1099511627776:=g2
   have hstep:rowStep b r ⟨f,t,ρ,o⟩=r2:=by
    show rowOne b (rowOne b r f t ρ) t f (-ρ)=_
    rw [hone]
    exact if_neg g2
   simp only [go_sem,hwa,xw,xf,xt,xfn,xtn,gbt,zAx,zZ,cx2,g2',decide_false,h6,zAd,AV.cells,AV.one,zK,zL,zJ,splice,zI,zG,and_self,zAe,qR,zB,zD,zC,reduceIte,reduceCtorEq,zA]
   exact hI _ ⟨_,rfl,by rw [hnext,hstep];exact hw2⟩
 ·have g1':¬ b.getD f 0 > -1099511627776:=g1
  have hone:rowOne b r f t ρ=r:=if_neg g1
  have hrl2:=hrl
  simp only [go_sem,hwa,xw,xf,xt,gbf,zAx,zZ,cx,g1',decide_false,zAd,AV.cells,AV.one,zK,zL,zJ,splice,zI,zG,and_self,zAe,qR,zB,zD,zC,reduceIte,reduceCtorEq,zA]
  by_cases g2:b.getD t 0 > -far
  ·have g2':b.getD t 0 > -1099511627776:=g2
   have hmx:(if b.getD t 0 - ρ > (r).getD f 0 then b.getD t 0 - ρ else (r).getD f 0)=max ((r).getD f 0) (b.getD t 0 + -ρ):=by split <;> omega
   have hw3:=w1.put ((r).set f (max ((r).getD f 0) (b.getD t 0 + -ρ)))
   have hstep:rowStep b r ⟨f,t,ρ,o⟩=(r).set f (max ((r).getD f 0) (b.getD t 0 + -ρ)):=by
    show rowOne b (rowOne b r f t ρ) t f (-ρ)=_
    rw [hone]
    exact if_pos g2
   have gf:(r)[f]? = some ((r).getD f 0):=by rw [zH,zF (by omega)];rfl
   have cu:=w1.cur
   have kf:f+1≤n:=hf
   simp only [go_sem,hwa,xw,xf,xt,xfn,xtn,gbt,zAx,zZ,cx,xr,rg,cu,gf,g2',decide_true,w2,zAa,maxsA,hmx,kf,zCf,hrl2,zCs,h6,zAd,AV.cells,AV.one,zK,zL,zJ,splice,zI,zG,and_self,zAe,qR,zB,zD,zC,reduceIte,reduceCtorEq,zA]
   exact hI _ ⟨_,rfl,by rw [hnext,hstep];exact hw3⟩
  ·have g2':¬ b.getD t 0 > -1099511627776:=g2
   have hstep:rowStep b r ⟨f,t,ρ,o⟩=r:=by
    show rowOne b (rowOne b r f t ρ) t f (-ρ)=_
    rw [hone]
    exact if_neg g2
   simp only [go_sem,hwa,xw,xf,xt,xfn,xtn,gbt,zAx,zZ,cx,g2',decide_false,h6,zAd,AV.cells,AV.one,zK,zL,zJ,splice,zI,zG,and_self,zAe,qR,zB,zD,zC,reduceIte,reduceCtorEq,zA]
   exact hI _ ⟨_,rfl,by rw [hnext,hstep];exact w1⟩
end Go.Av.Lx
end
