/- Part 21 of the proof. -/
import Derived.Test.YtclmbbofpaecaaaGreatDoorVm19
import Derived.Test.YtclmbbofpaecaaaGreatDoorVm20
set_option linter.all false
set_option linter.unusedVariables false
set_option linter.unusedSimpArgs false
set_option linter.unusedSectionVars false
open Bool renaming and_self → zJ, not_true → zY, not_false → qE
open Int renaming toNat_natCast → qS, le_trans → yR
open List renaming getElem?_eq_getElem → zF, getD_eq_getElem?_getD → zG, set_cons_succ → zH, set_cons_zero → zI, all_cons → zL, all_nil → zM, getElem?_eq_none → zO, mem_cons_self → zP, getElem?_append_right → zR, getElem_mem → zX, length_append → zZ, getElem?_map → qD, append_assoc → qG, getElem?_range → qH, take_succ_eq_append_getElem → qL, cons_append → qP, nil_append → qR, getElem?_replicate → qW, getElem?_set → qZ, range_succ → yD, all_eq_true → yG, not_mem_nil → yH, take_length → yK, mem_cons → yN, length_map → yS, take_of_length_le → yY
open Nat renaming reduceLeDiff → zA, reduceEqDiff → zB, reduceAdd → zC, reduceBEq → zD, le_of_ble_eq_true → zE, le_refl → zN, lt_or_ge → zV, zero_le → qJ, not_lt_zero → qO, mul_one → qQ, add_sub_cancel_left → qX, sub_self → yX
open Option renaming map_some → zW
open Option.some renaming injEq → xA
section
set_option maxHeartbeats 2000000
namespace Go.Av.Lx
open Go Go.Av Go.Av.Tb Go.Av.Fx Go.Proofs
open Go.Lv (Sight Survey Sw Sv SightOk)
open Go.Fw (Sq ent Bd Mat upd row stage upto)
theorem zCu {E:Env} {c:MC} {Q:AQ} {ts:TS} {S:St} (N:Nat) (f:Nat→TS) (g:Nat→St→Prop) (h0:f 0=ts) (h1:g 0 S)
  (h:∀ k,k≤N → ∀ S,g k S → ∀ I:TS→St→Prop,(k<N → ∀ S',g (k+1) S'→I (f (k+1)) S')→WC E c (thenQ I Q) (f k) S):WC E (.loop c) Q ts S:=by
 refine zAu (fun m ts' S' => ∃ k,k≤N∧m=N - k∧ts'=f k∧g k S') N ⟨0,qJ _,rfl,h0.symm,h1⟩ ?_
 rintro n ts' S' ⟨k,hk,rfl,rfl,hg⟩
 exact h k hk S' hg _ fun hlt S'' hg'=>zAj (N - (k+1)) (by omega) ⟨k+1,hlt,rfl,rfl,hg'⟩
theorem mkB {k k':IntKind} {n:Nat} (h:n≤100000000):zBt T 45 (.int k n) (.int k' n)=some (.alloc (.cells (bools (List.replicate n false))) fun i=>.sref i 0 n n):=by
 have h1:0≤(n:Int)∧(n:Int)≤n∧(n:Int)≤1099511627776∧(n:Int) * 1≤1099511627776∧(1:Nat)≠0:=by omega
 have h2:(List.range (n * 1)).map (fun j=>([.bool false]:List AV).getD (j % 1) .undef)=bools (List.replicate n false):=by
  apply List.ext_getElem?
  intro j
  simp only [qQ,qD,bools,qW]
  by_cases hj:j<n
  ·rw [qH hj,if_pos hj];simp [Nat.mod_one]
  ·rw [zO (by simpa using hj),if_neg hj];rfl
 show (if 0≤(n:Int)∧(n:Int)≤n∧(n:Int)≤1099511627776∧(n:Int) * (1:Nat)≤1099511627776∧(1:Nat)≠0 then some (Res.alloc (.cells ((List.range ((n:Int).toNat * 1)).map fun j=>([.bool false]:List AV).getD (j % 1) .undef)) (.sref · 0 (n:Int).toNat (n:Int).toNat)) else none)=_
 rw [if_pos (by simpa using h1),qS,h2]
theorem rowRowsB:RowT 36 45 1:=⟨rfl,⟨_,rfl,rfl,by decide⟩,by decide⟩
@[go_sem] theorem bsRB (b o n c:Nat):zAf T 36 1 [(0,.sref b o n c)]=some (.slice [.sref b o n c] 1 .exact):=rfl
@[go_sem] theorem bd_rises:buildA T 38 []=some (.agg [.nilS,.nilS]):=rfl
def offO (off:Int) (x:Sight):Int:=if off<0 then x.off else off
def allB (by' off:Int) (l:List Sight):List Bd:=l.flatMap fun x=>Lv.sightD by' (offO off x) x
theorem all_known (s:Survey):allB 1 (-1) s.sights=Lv.surveyB s:=by
 unfold allB Lv.surveyB
 congr 1
 funext x
 unfold Lv.sightD Lv.sightB offO
 simp
theorem row0_mo (n a:Nat) (h:a<n):(row0 n a).map mo=List.replicate n 0:=by
 apply List.ext_getElem?
 intro j
 unfold row0
 rw [qD,qZ,qW,qW]
 by_cases e:a=j
 ·subst e;rw [if_pos rfl,if_pos (by simpa using h),if_pos h];rfl
 ·rw [if_neg e]
  by_cases hj:j<n
  ·rw [if_pos hj,if_pos hj];rfl
  ·rw [if_neg hj,if_neg hj];rfl
theorem row0_jo (n a:Nat):(row0 n a).map jo=(List.replicate n false).set a true:=by
 unfold row0
 rw [List.map_set,List.map_replicate];rfl
theorem mat0_succ (n m:Nat):mat0 n (m+1)=mat0 n m ++ [row0 n m]:=by simp [mat0,yD]
structure AllOk (n:Nat) (by' off:Int) (l:List Sight):Prop where
 n8:1≤n∧n≤8
 ok:∀ x∈l,SightOk n x
 bys:1≤by'∧by'≤8
 offs:-1≤off∧off≤8000
theorem rise_by {r b:Int} (hr:-1000≤r∧r≤1000) (hb:1≤b∧b≤8):-8000≤r * b∧r * b≤8000:=by
 have:b=1∨b=2∨b=3∨b=4∨b=5∨b=6∨b=7∨b=8:=by omega
 rcases this with rfl | rfl | rfl | rfl | rfl | rfl | rfl | rfl <;> omega
theorem AllOk.num {n:Nat} {by' off:Int} {l:List Sight} (h:AllOk n by' off l) {x:Sight} (hx:x∈l):(-8000≤x.rise * by'∧x.rise * by'≤8000)∧(0≤offO off x∧offO off x≤8000):=by
 have ho:=h.ok x hx
 have h1:=ho.off;have h2:=h.offs
 refine ⟨rise_by ho.rise h.bys, ?_⟩
 unfold offO
 split <;> omega
theorem AllOk.oks {n:Nat} {by' off:Int} {l:List Sight} (h:AllOk n by' off l):Lv.Oks n (allB by' off l):=fun c hc=>by
 obtain ⟨x,hx,hc⟩:=List.mem_flatMap.1 hc
 obtain ⟨h1,h2⟩:=h.num hx
 have ho:=h.ok x hx
 have a:=ho.frm;have b:=ho.to;have d:=ho.ne
 have hb:Lv.big=20000:=rfl
 unfold Lv.sightD at hc
 simp only [yN,yH,or_false] at hc
 rcases hc with rfl | rfl
 ·exact ⟨by show x.frm.toNat<n;omega,by show x.to.toNat<n;omega,by show x.frm.toNat≠x.to.toNat;omega,by show -Lv.big≤x.rise * by'+offO off x;omega,by show x.rise * by'+offO off x≤Lv.big;omega⟩
 ·exact ⟨by show x.to.toNat<n;omega,by show x.frm.toNat<n;omega,by show x.to.toNat≠x.frm.toNat;omega,by show -Lv.big≤offO off x - x.rise * by';omega,by show offO off x - x.rise * by'≤Lv.big;omega⟩
theorem mo_eq' {x:Int} (h:x<far):mo x=x:=if_pos h
theorem all_ac {n:Nat} {by' off:Int} {l:List Sight} (h:AllOk n by' off l) (hl:l.length≤100) (H:List (Option Blk)) (N:Nat) (toks:List Nat) (R:AEnd→St→Prop)
  (hnone:Lv.clo n (allB by' off l)=none → ∀ (A:List (Option Blk)) (nt:Nat) (tk:List Nat),N≤nt→R (.ret (.tuple [.agg [.nilS,.nilS],.bool false])) ⟨H ++ A,nt,tk⟩)
  (hsome:∀ V,Lv.clo n (allB by' off l)=some V → ∀ (A C:List (Option Blk)) (t1 t2:Tail) (nt:Nat) (tk:List Nat),A.length=2→N≤nt→R (.ret (.tuple [rG (H.length+2) n t1 t2,.bool true])) ⟨H ++ (A ++ (heapP V ++ C)),nt,tk⟩) :
  AC Tryz.prog 99 [.int .i64 n,.slice (sgts l) l.length .unk,.int .i64 by',.int .i64 off] ⟨H,N,toks⟩ R:=by
 refine AC.run (Es_ok _ _) mix Tryz.func99 m99 rfl rfl rfl (zE rfl) ?_
 have hn8:=h.n8
 have l0:∀ x,(H ++ [x]).length=H.length+1:=fun x=>by simp
 have l1:∀ x y,(H ++ [x,y]).length=H.length+2:=fun x y=>by simp
 simp only [go_sem,l0,l1,zB,zD,zC,reduceIte,reduceCtorEq,zA]
 obtain ⟨A,hA⟩:∃ A:AV→AV→List (Option Blk),A=fun V1 V2=>H ++ [some (.cells [.nilS,.nilS]),some (.cells [V1,V2])]:=⟨_,rfl⟩
 have lA:∀ V1 V2,(A V1 V2).length=H.length+2:=fun V1 V2=>by rw [hA];simp
 have a0:∀ V1 V2 X,cellsAt (A V1 V2 ++ X) H.length=some [.nilS,.nilS]:=fun V1 V2 X=>by
  rw [hA];simp only [qG,qP,qR]
  unfold cellsAt;rw [zR (zN _),yX];rfl
 have a1:∀ V1 V2 X,cellsAt (A V1 V2 ++ X) (H.length+1)=some [V1,V2]:=fun V1 V2 X=>by
  rw [hA];simp only [qG,qP,qR]
  unfold cellsAt;rw [zR (by omega),qX];rfl
 have b1:∀ V1 V2 W1 W2 X,setH (A V1 V2 ++ X) (H.length+1) (.cells [W1,W2])=A W1 W2 ++ X:=fun V1 V2 W1 W2 X=>by
  rw [hA];simp only [qG,qP,qR]
  rw [zBl];rfl
 refine zAu (fun m ts' S' => ∃ a V1 V2 nt tk,a≤n∧m=n - a∧ts'=[(0,.int .i64 n),(1,.slice (sgts l) l.length .unk),(2,.int .i64 by'),(3,.int .i64 off),(8,.ref H.length 0),(10,.ref (H.length+1) 0),(11,.int .i64 (a:Nat))]∧S'=⟨A V1 V2 ++ heapP (mat0 n a),nt,tk⟩∧Own (rowsM (H.length+2) a n) a V1 nt tk∧Own (rowsJ (H.length+2) a n) a V2 nt tk∧Apart V1 V2∧N≤nt) n ⟨0,.nilS,.nilS,N,toks,qJ _,rfl,rfl,by rw [hA];simp [mat0,heapP],Own.nil _ _,Own.nil _ _,zEv _,zN _⟩ ?_
 rintro m ts' S' ⟨a,V1,V2,nt,tk,ha,rfl,rfl,rfl,o1,o2,ap,hnt⟩
 have lR:(A V1 V2 ++ heapP (mat0 n a)).length=H.length+2+2 * a:=by rw [zZ,lA,zBk];simp [mat0]
 by_cases hlt:a<n
 ·have h1:(a:Int)<n:=by omega
  have h4:IntKind.i64.wrap ((a:Int)+1)=(a+1:Nat):=wrap64 (by omega)
  have k1:=mk22 (k:=.i64) (k':=.i64) (n:=n) (by omega)
  have k2:=mkB (k:=.i64) (k':=.i64) (n:=n) (by omega)
  have hz:(heapP (mat0 n a)).length=2 * a:=by rw [zBk];simp [mat0]
  have lR2:∀ x,(A V1 V2 ++ (heapP (mat0 n a) ++ [x])).length=H.length+2+2 * a+1:=fun x=>by rw [zZ,zZ,lA,hz];simp;omega
  have lm:(rowsM (H.length+2) a n).length=a * 1:=by simp
  have lj:(rowsJ (H.length+2) a n).length=a * 1:=by simp
  simp only [go_sem,l99_0,h1,decide_true,a1,k1,k2,lR,zAa,zB,zD,zC,reduceIte,reduceCtorEq,zA]
  refine own_sq (lx:=[.sref (H.length+2+2 * a) 0 n n]) rowRows o1 lm rfl (by decide) rfl (by omega) fun V1' tk1 g1 => ?_
  obtain ⟨o2',ap'⟩:=g1.keep _ _ _ o2 ap
  simp only [go_sem,a1,k2,lR2,zAa,zB,zD,zC,reduceIte,reduceCtorEq,zA]
  refine own_sq (lx:=[.sref (H.length+2+2 * a+1) 0 n n]) rowRowsB o2' lj rfl (by decide) rfl (by omega) fun V2' tk2 g2 => ?_
  obtain ⟨o1',ap''⟩:=g2.keep _ _ _ g1.own ap'.symm
  obtain ⟨q1,q2⟩:=o1'.cells
  obtain ⟨q3,q4⟩:=g2.own.cells
  simp only [go_sem,a1,b1,q1,q2,q3,q4,zAc,zL,zM,zJ,splice,and_self,zI,zH,zB,zD,zC,reduceIte,reduceCtorEq,zA]
  have hset:∀ W1 W2,setH (A W1 W2 ++ (heapP (mat0 n a) ++ [some (.cells (ints (List.replicate n 0))),some (.cells (bools (List.replicate n false)))])) (H.length+2+2 * a+1) (.cells ((bools (List.replicate n false)).set a (.bool true)))=A W1 W2 ++ heapP (mat0 n (a+1)):=fun W1 W2=>by
   rw [← lA W1 W2,Nat.add_assoc (A W1 W2).length,zBl,← hz,zBl,mat0_succ,← heapP_snoc,row0_mo n a hlt,row0_jo,bools_set];rfl
  have hcell:∀ W1 W2,cellsAt (A W1 W2 ++ (heapP (mat0 n a) ++ [some (.cells (ints (List.replicate n 0))),some (.cells (bools (List.replicate n false)))])) (H.length+2+2 * a+1)=some (bools (List.replicate n false)):=fun W1 W2=>by
   unfold cellsAt
   rw [← lA W1 W2,Nat.add_assoc (A W1 W2).length,zR (by omega),qX,← hz,zR (by omega),qX];rfl
  have xa:0≤(a:Int)∧(a:Int)<(a+1:Nat):=by omega
  have xb:0≤(a:Int)∧(a:Int)<(n:Nat):=by omega
  have rj:(rowsJ (H.length+2) (a+1) n)[a]? = some (.sref (H.length+2+2 * a+1) 0 n n):=zDt (by omega)
  have gt:=g2.tok
  have go2:=g2.own
  rw [rowsJ_snoc] at gt go2
  rw [rowsM_snoc] at o1'
  have hk1:a+1≤n:=hlt
  rw [gt]
  simp only [go_sem,xa,xb,rj,zAe,qQ,and_self,hcell,zB,zD,zC,reduceIte,reduceCtorEq,zA]
  rw [← gt]
  simp only [go_sem,AV.cells,AV.one,zL,zM,zJ,splice,bools_len,List.length_replicate,zAc,hk1,hset,h4,zB,zD,zC,reduceIte,reduceCtorEq,zA]
  exact zAj (n - (a+1)) (by omega) ⟨a+1,V1',V2',nt+1+1,tk2,hlt,rfl,rfl,rfl,o1',go2,ap''.symm,by omega⟩
 have h1:¬ (a:Int)<n:=by omega
 have ea:a=n:=by omega
 subst ea
 have hV1:∃ t,V1=.slice (rowsM (H.length+2) a a) a t:=by
  rcases o1 with ⟨_,_,h0⟩ | ⟨k,hk,_⟩
  ·omega
  ·exact ⟨_,hk⟩
 have hV2:∃ t,V2=.slice (rowsJ (H.length+2) a a) a t:=by
  rcases o2 with ⟨_,_,h0⟩ | ⟨k,hk,_⟩
  ·omega
  ·exact ⟨_,hk⟩
 obtain ⟨t1,rfl⟩:=hV1
 obtain ⟨t2,rfl⟩:=hV2
 clear o1 o2 ap lR l0 l1
 simp only [go_sem,l99_0,h1,decide_false,zB,zD,zC,reduceIte,reduceCtorEq,zA]
 obtain ⟨B,hB⟩:∃ B,A (AV.slice (rowsM (H.length+2) a a) a t1) (AV.slice (rowsJ (H.length+2) a a) a t2)=B:=⟨_,rfl⟩
 have lB:B.length=H.length+2:=by rw [← hB];exact lA _ _
 have hcB:∀ X,cellsAt (B ++ X) (H.length+1)=some [AV.slice (rowsM (H.length+2) a a) a t1,AV.slice (rowsJ (H.length+2) a a) a t2]:=fun X=>by rw [← hB];exact a1 _ _ X
 have hc0:∀ X,cellsAt (B ++ X) H.length=some [.nilS,.nilS]:=fun X=>by rw [← hB];exact a0 _ _ X
 have hs0:∀ X B',∃ A',A'.length=2∧(∀ Y,cellsAt (H ++ (A' ++ Y)) H.length=(match B' with | Blk.cells l=>some l | _=>none))∧setH (B ++ X) H.length B'=H ++ (A' ++ X):=fun X B'=>by
  refine ⟨[some B',some (.cells [AV.slice (rowsM (H.length+2) a a) a t1,AV.slice (rowsJ (H.length+2) a a) a t2])],rfl,fun Y => ?_, ?_⟩
  ·simp only [qP,qR]
   unfold cellsAt
   rw [zR (zN _),yX]
   cases B' <;> rfl
  ·rw [← hB,hA]
   simp only [qG,qP,qR]
   have:=zBl H (some (.cells [.nilS,.nilS]) :: some (.cells [AV.slice (rowsM (H.length+2) a a) a t1,AV.slice (rowsJ (H.length+2) a a) a t2]) :: X) 0 B'
   rw [show H.length+0=H.length from rfl] at this
   exact this
 have hBH:∃ A',B=H ++ A':=⟨_,by rw [← hB,hA]⟩
 rw [hB]
 clear a0 a1 b1 lA hB hA
 have hgood:∀ j,Fw.Good far Lv.big Lv.big a ((allB by' off (l.take j)).foldl Fw.addc (mat0 a a)):=fun j=>by
  refine (Lv.base_good a).fold fun c hc=>h.oks c ?_
  obtain ⟨x,hx,hc⟩:=List.mem_flatMap.1 hc
  exact List.mem_flatMap.2 ⟨x,List.mem_of_mem_take hx,hc⟩
 refine zCu l.length (fun j=>[(0,.int .i64 a),(1,.slice (sgts l) l.length .unk),(2,.int .i64 by'),(3,.int .i64 off),(8,.ref H.length 0),(10,.ref (H.length+1) 0),(12,.int .i64 (j:Nat))])
  (fun j S => ∃ X,S=⟨B ++ (heapP ((allB by' off (l.take j)).foldl Fw.addc (mat0 a a)) ++ X),nt,tk⟩) rfl ⟨[],by simp [allB]⟩ ?_
 rintro j hj S ⟨X,rfl⟩ I hI
 have hg:=hgood j
 by_cases hlt:j<l.length
 ·have h1:(j:Int)<l.length:=by omega
  have h2:0≤(j:Int)∧(j:Int)<l.length:=by omega
  have h3:j * 4+4≤(sgts l).length:=by rw [zAy];omega
  have h4:IntKind.i64.wrap ((j:Int)+1)=(j+1:Nat):=wrap64 (by omega)
  have h5:=zBx l j hlt
  have hx:=h.ok _ (zX hlt)
  obtain ⟨n1,n2⟩:=h.num (zX hlt)
  have hc1:=h.oks
  have hnext:(allB by' off (l.take (j+1))).foldl Fw.addc (mat0 a a)=(Lv.sightD by' (offO off l[j]) l[j]).foldl Fw.addc ((allB by' off (l.take j)).foldl Fw.addc (mat0 a a)):=by
   unfold allB
   rw [qL hlt,List.flatMap_append,List.foldl_append];simp
  have hd:∀ c∈Lv.sightD by' (offO off l[j]) l[j],c.Ok Lv.big Lv.big a:=fun c hc=>hc1 c (List.mem_flatMap.2 ⟨l[j],zX hlt,hc⟩)
  generalize (allB by' off (l.take j)).foldl Fw.addc (mat0 a a)=W at *
  generalize l[j]=x at *
  obtain ⟨f,t,r,o⟩:=x
  obtain ⟨f,rfl⟩:∃ f':Nat,f=f':=⟨f.toNat,by have:=hx.frm;simp only at this;omega⟩
  obtain ⟨t,rfl⟩:∃ t':Nat,t=t':=⟨t.toNat,by have:=hx.to;simp only at this;omega⟩
  have hf:f<a:=by have:=hx.frm;simp only at this;omega
  have ht:t<a:=by have:=hx.to;simp only at this;omega
  obtain ⟨o',ho'⟩:∃ o',offO off ⟨f,t,r,o⟩=o':=⟨_,rfl⟩
  rw [ho'] at hnext hd n2
  simp only at n1
  have w1:IntKind.i64.wrap (r * by')=r * by':=wrap64 (by omega)
  have w2:IntKind.i64.wrap (r * by'+o')=r * by'+o':=wrap64 (by omega)
  have w3:IntKind.i64.wrap (o' - r * by')=o' - r * by':=wrap64 (by omega)
  have hm1:r * by'+o'<far:=by show r * by'+o'<(1099511627776:Int);omega
  have hm2:o' - r * by'<far:=by show o' - r * by'<(1099511627776:Int);omega
  have e0:(Lv.sightD by' o' ⟨f,t,r,o⟩).foldl Fw.addc W=Fw.addc (Fw.addc W ⟨f,t,r * by'+o'⟩) ⟨t,f,o' - r * by'⟩:=rfl
  have hg':=hg.addc (hd ⟨f,t,r * by'+o'⟩ zP)
  obtain ⟨L,hL⟩:∃ L,(B ++ (heapP W ++ X)).length=L:=⟨_,rfl⟩
  have hX:∀ y,B ++ (heapP W ++ (X ++ [y]))=(B ++ (heapP W ++ X)) ++ [y]:=fun y=>by simp
  have c1:∀ l,cellsAt (B ++ (heapP W ++ (X ++ [some (.cells l)]))) L=some l:=fun l=>by rw [hX,← hL];exact zAg _ _
  have c2:∀ z B',setH (B ++ (heapP W ++ (X ++ [z]))) L B'=B ++ (heapP W ++ (X ++ [some B'])):=fun z B'=>by rw [hX,← hL,zAs];simp
  have c1':∀ l Y,cellsAt (B ++ (heapP (Fw.addc W ⟨f,t,r * by'+o'⟩) ++ (X ++ [some (.cells l),Y]))) L=some l:=fun l Y=>by
   have e1:(heapP (Fw.addc W ⟨f,t,r * by'+o'⟩)).length=(heapP W).length:=by rw [zBk,zBk,hg'.sq.1,hg.sq.1]
   have e2:B ++ (heapP (Fw.addc W ⟨f,t,r * by'+o'⟩) ++ (X ++ [some (.cells l),Y]))=(B ++ (heapP (Fw.addc W ⟨f,t,r * by'+o'⟩) ++ X)) ++ [some (.cells l),Y]:=by simp
   have e3:(B ++ (heapP (Fw.addc W ⟨f,t,r * by'+o'⟩) ++ X)).length=L:=by rw [← hL];simp [hg'.sq.1,hg.sq.1]
   unfold cellsAt
   rw [e2,zR (by omega),e3,yX];rfl
  have hI:=hI hlt
  simp only [go_sem,l99_1,h1,decide_true,h2,zAe,and_self,h3,h5,hL,c1,c2,zAc,AV.cells,AV.one,zL,zM,zJ,splice,zI,zH,zAa,zB,zD,zC,reduceIte,reduceCtorEq,zA]
  by_cases hc:off<0
  ·have eo:o=o':=by rw [← ho'];unfold offO;rw [if_pos hc]
   subst eo
   simp only [go_sem,hc,decide_true,c1,c2,hcB,zAc,AV.cells,AV.one,zL,zM,zJ,splice,zI,zH,and_self,w1,w2,w3,zB,zD,zC,reduceIte,reduceCtorEq,zA]
   refine zBf (E:=Es _ _) n108 (zEy hg.sq lB t1 t2 hf ht hm1 (hg.high _ _ hf ht) nt tk) (fun v S' hR => ?_) (fun v S' hR=>by cases hR.1)
   obtain ⟨e,Y,rfl⟩:=hR
   cases e
   simp only [go_sem,c1',hcB,zAc,AV.cells,AV.one,zL,zM,zJ,splice,zI,zH,and_self,w1,w2,w3,zB,zD,zC,reduceIte,reduceCtorEq,zA]
   refine zBf (E:=Es _ _) n108 (zEy hg'.sq lB t1 t2 ht hf hm2 (hg'.high _ _ ht hf) nt tk) (fun v S' hR => ?_) (fun v S' hR=>by cases hR.1)
   obtain ⟨e,Y',rfl⟩:=hR
   cases e
   simp only [go_sem,h4,zB,zD,zC,reduceIte,reduceCtorEq,zA]
   exact hI _ ⟨_,by rw [hnext,e0]⟩
  ·have eo:off=o':=by rw [← ho'];unfold offO;rw [if_neg hc]
   subst eo
   simp only [go_sem,hc,decide_false,c1,c2,hcB,zAc,AV.cells,AV.one,zL,zM,zJ,splice,zI,zH,and_self,w1,w2,w3,zB,zD,zC,reduceIte,reduceCtorEq,zA]
   refine zBf (E:=Es _ _) n108 (zEy hg.sq lB t1 t2 hf ht hm1 (hg.high _ _ hf ht) nt tk) (fun v S' hR => ?_) (fun v S' hR=>by cases hR.1)
   obtain ⟨e,Y,rfl⟩:=hR
   cases e
   simp only [go_sem,c1',hcB,zAc,AV.cells,AV.one,zL,zM,zJ,splice,zI,zH,and_self,w1,w2,w3,zB,zD,zC,reduceIte,reduceCtorEq,zA]
   refine zBf (E:=Es _ _) n108 (zEy hg'.sq lB t1 t2 ht hf hm2 (hg'.high _ _ ht hf) nt tk) (fun v S' hR => ?_) (fun v S' hR=>by cases hR.1)
   obtain ⟨e,Y',rfl⟩:=hR
   cases e
   simp only [go_sem,h4,zB,zD,zC,reduceIte,reduceCtorEq,zA]
   exact hI _ ⟨_,by rw [hnext,e0]⟩
 have h1:¬ (j:Int)<l.length:=by omega
 have ej:j=l.length:=by omega
 subst ej
 rw [yK] at hg ⊢
 simp only [go_sem,l99_1,h1,decide_false,zAa,zB,zD,zC,reduceIte,reduceCtorEq,zA]
 obtain ⟨W,hW⟩:∃ W,(allB by' off l).foldl Fw.addc (mat0 a a)=W:=⟨_,rfl⟩
 rw [hW] at hg ⊢
 have hclo:Lv.clo a (allB by' off l)=Fw.closed far a W:=by rw [← hW];rfl
 rw [hclo] at hnone
 rw [hclo] at hsome
 clear hgood hI h1 hlt hj I hclo hW
 have sq:=hg.sq
 have mlow:∀ i j,i<a→j<a → -20000≤ent W i j:=hg.low
 have msmall:∀ i j,i<a→j<a→ent W i j<far→ent W i j≤20000:=hg.small
 have mhigh:∀ i j,i<a→j<a→ent W i j≤far:=hg.high
 have h7:(7:Int) ^ a≤7 ^ 8:=Fw.pow_le (by decide) _ (by omega)
 refine zCu a (fun k=>[(0,.int .i64 a),(8,.ref H.length 0),(10,.ref (H.length+1) 0),(15,.int .i64 (k:Nat))]) (fun k S => ∃ X,S=⟨B ++ (heapP (upto far a k W) ++ X),nt,tk⟩) rfl ⟨X,rfl⟩ ?_
 rintro c hc S ⟨X,rfl⟩ I hI
 by_cases hC:c<a
 ·have hC':(c:Int)<(a:Nat):=by omega
  have h6:IntKind.i64.wrap ((c:Int)+1)=(c+1:Nat):=wrap64 (by omega)
  have sqc:Sq a (upto far a c W):=sq.upto far a c
  simp only [go_sem,l99_2,hC',decide_true,zB,zD,zC,reduceIte,reduceCtorEq,zA]
  refine zCu a (fun k=>[(0,.int .i64 a),(8,.ref H.length 0),(10,.ref (H.length+1) 0),(15,.int .i64 c),(16,.int .i64 (k:Nat))]) (fun k S => ∃ X,S=⟨B ++ (heapP ((List.range k).foldl (row far a c) (upto far a c W)) ++ X),nt,tk⟩) rfl ⟨X,rfl⟩ ?_
  rintro p hp S ⟨X,rfl⟩ I2 hI2
  by_cases hP:p<a
  ·have hP':(p:Int)<(a:Nat):=by omega
   have hP6:IntKind.i64.wrap ((p:Int)+1)=(p+1:Nat):=wrap64 (by omega)
   have sqp:Sq a ((List.range p).foldl (row far a c) (upto far a c W)):=Fw.fold_ind (fun _ w=>Sq a w) _ _ _ sqc fun _ _ _ hw=>hw.row _ _ _ _
   simp only [go_sem,l99_3,hP',decide_true,zB,zD,zC,reduceIte,reduceCtorEq,zA]
   refine zCu a (fun k=>[(0,.int .i64 a),(8,.ref H.length 0),(10,.ref (H.length+1) 0),(15,.int .i64 c),(16,.int .i64 p),(17,.int .i64 (k:Nat))]) (fun k S => ∃ X,S=⟨B ++ (heapP ((List.range k).foldl (upd far c p) ((List.range p).foldl (row far a c) (upto far a c W))) ++ X),nt,tk⟩) rfl ⟨X,rfl⟩ ?_
   rintro b hb3 S ⟨X,rfl⟩ I3 hI3
   by_cases hB:b<a
   ·have hB':(b:Int)<(a:Nat):=by omega
    have hB6:IntKind.i64.wrap ((b:Int)+1)=(b+1:Nat):=wrap64 (by omega)
    have sqb:Sq a ((List.range b).foldl (upd far c p) ((List.range p).foldl (row far a c) (upto far a c W))):=Fw.fold_ind (fun _ w=>Sq a w) _ _ _ sqp fun _ _ _ hw=>hw.upd _ _ _ _
    have hnext:=hI3 hB
    rw [Fw.fold_succ] at hnext
    have low:=Fw.low_in (n:=a) (X:=20000) (W:=W) (by decide) sq far mlow (c:=c) (a:=p) (b:=b) hC hP (by omega)
    have hi:=Lv.hi_in (f:=far) sq (by decide) msmall hC hP (b:=b) (by omega)
    have high:∀ i j,i<a→j<a→ent ((List.range b).foldl (upd far c p) ((List.range p).foldl (row far a c) (upto far a c W))) i j≤far:=fun i j hi hj =>
     yR (Fw.high_in (n:=a) (W:=W) sq far (c:=c) (a:=p) (b:=b) (by omega) (by omega) i j (.inr hP)) (mhigh i j hi hj)
    generalize (List.range b).foldl (upd far c p) ((List.range p).foldl (row far a c) (upto far a c W))=U at *
    have xa:0≤(p:Int)∧(p:Int)<(a:Nat):=by omega
    have xb:0≤(b:Int)∧(b:Int)<(a:Nat):=by omega
    have xc:0≤(c:Int)∧(c:Int)<(a:Nat):=by omega
    have rmp:=zDs (off:=H.length+2) (n:=a) hP
    have rmc:=zDs (off:=H.length+2) (n:=a) hC
    have rjp:=zDt (off:=H.length+2) (n:=a) hP
    have rjc:=zDt (off:=H.length+2) (n:=a) hC
    have pmp:=pair_M (C:=X) sqb hP lB
    have pmc:=pair_M (C:=X) sqb hC lB
    have pjp:=pair_J (C:=X) sqb hP lB
    have pjc:=pair_J (C:=X) sqb hC lB
    have emp:=ent_M sqb hP hC
    have emc:=ent_M sqb hC hB
    have ejp:=ent_J sqb hP hC
    have ejc:=ent_J sqb hC hB
    simp only [go_sem,l99_4,hB',decide_true,zB,zD,zC,reduceIte,reduceCtorEq,zA]
    by_cases g1:ent U p c<far
    ·rw [show jo (ent U p c)=true from decide_eq_true g1] at ejp
     by_cases g2:ent U c b<far
     ·rw [show jo (ent U c b)=true from decide_eq_true g2] at ejc
      rw [mo_eq' g1] at emp
      rw [mo_eq' g2] at emc
      have l1:=low p c hP hC
      have l2:=low c b hC hB
      have u1:=hi.col p hP g1
      have u2:=hi.row b hB g2
      have tp:=Lv.two_pow (c:=c) (by omega)
      have e7:(7:Int) ^ 8=5764801:=by decide
      have hm:ent U p c+ent U c b<far:=by show _<(1099511627776:Int);omega
      have w1:IntKind.i64.wrap (ent U p c+ent U c b)=ent U p c+ent U c b:=wrap64 (by omega)
      have hupd:upd far c p U b=Fw.addc U ⟨p,b,ent U p c+ent U c b⟩:=by unfold Fw.upd;rw [if_pos ⟨g1,g2⟩];rfl
      rw [hupd] at hnext
      simp only [go_sem,hcB,xa,xb,xc,rmp,rmc,rjp,rjc,pmp,pmc,pjp,pjc,emp,emc,ejp,ejc,zAe,qQ,and_self,w1,zB,zD,zC,reduceIte,reduceCtorEq,zA]
      refine zBf (E:=Es _ _) n108 (zEy sqb lB t1 t2 hP hB hm (high _ _ hP hB) nt tk) (fun v S' hR => ?_) (fun v S' hR=>by cases hR.1)
      obtain ⟨e,Y,rfl⟩:=hR
      cases e
      simp only [go_sem,hB6,zB,zD,zC,reduceIte,reduceCtorEq,zA]
      exact hnext _ ⟨_,rfl⟩
     ·rw [show jo (ent U c b)=false from decide_eq_false g2] at ejc
      have hupd:upd far c p U b=U:=by unfold Fw.upd;rw [if_neg fun hh=>g2 hh.2]
      rw [hupd] at hnext
      simp only [go_sem,hcB,xa,xb,xc,rmp,rmc,rjp,rjc,pmp,pmc,pjp,pjc,ejp,ejc,zAe,qQ,and_self,hB6,zB,zD,zC,reduceIte,reduceCtorEq,zA]
      exact hnext _ ⟨_,rfl⟩
    ·rw [show jo (ent U p c)=false from decide_eq_false g1] at ejp
     have hupd:upd far c p U b=U:=by unfold Fw.upd;rw [if_neg fun hh=>g1 hh.1]
     rw [hupd] at hnext
     simp only [go_sem,hcB,xa,xb,xc,rmp,rmc,rjp,rjc,pmp,pmc,pjp,pjc,ejp,zAe,qQ,and_self,hB6,zB,zD,zC,reduceIte,reduceCtorEq,zA]
     exact hnext _ ⟨_,rfl⟩
   ·have hB':¬ (b:Int)<(a:Nat):=by omega
    simp only [go_sem,l99_4,hB',decide_false,hP6,zB,zD,zC,reduceIte,reduceCtorEq,zA]
    have:=hI2 hP
    rw [Fw.fold_succ] at this
    rw [show b=a by omega]
    exact this _ ⟨_,rfl⟩
  ·have hP':¬ (p:Int)<(a:Nat):=by omega
   simp only [go_sem,l99_3,hP',decide_false,h6,zB,zD,zC,reduceIte,reduceCtorEq,zA]
   have:=hI hC
   rw [show upto far a (c+1) W=stage far a (upto far a c W) c from Fw.fold_succ _ _ _] at this
   rw [show p=a by omega]
   exact this _ ⟨_,rfl⟩
 have hC':¬ (c:Int)<(a:Nat):=by omega
 have hcm:c=a:=by omega
 subst hcm
 simp only [go_sem,l99_2,hC',decide_false,zB,zD,zC,reduceIte,reduceCtorEq,zA]
 clear hI hc hC hC' I mlow msmall h7
 have sqV:Sq c (upto far c c W):=sq.upto far c c
 have hdg:∀ i,i<c→ent (upto far c c W) i i<far:=fun i hi=>by
  have h1:=Fw.upto_le sq far c i i
  have h2:=hg.diag i hi
  show _<(1099511627776:Int)
  omega
 unfold Fw.closed at hsome hnone
 generalize upto far c c W=U at *
 refine zBd c (fun k => ∀ i,i<k→0≤ent U i i) (fun k=>[(0,.int .i64 c),(8,.ref H.length 0),(10,.ref (H.length+1) 0),(18,.int .i64 (k:Nat))]) (fun k=>⟨B ++ (heapP U ++ X),nt,tk⟩) (fun i hi=>absurd hi (qO _)) rfl rfl ?_
 intro i hi hP I hI
 by_cases hC:i<c
 ·have hC':(i:Int)<(c:Nat):=by omega
  have h6:IntKind.i64.wrap ((i:Int)+1)=(i+1:Nat):=wrap64 (by omega)
  have xa:0≤(i:Int)∧(i:Int)<(c:Nat):=by omega
  have rm:=zDs (off:=H.length+2) (n:=c) hC
  have pm:=pair_M (C:=X) sqV hC lB
  have em:=ent_M sqV hC hC
  rw [mo_eq' (hdg i hC)] at em
  simp only [go_sem,l99_5,hC',decide_true,hcB,xa,rm,pm,em,zAe,qQ,and_self,zB,zD,zC,reduceIte,reduceCtorEq,zA]
  by_cases g:ent U i i<0
  ·have hno:((List.range c).all fun i=>decide (0≤ent U i i))=false:=by
    rw [List.all_eq_false]
    exact ⟨i,List.mem_range.2 hC,by rw [decide_eq_true_iff];omega⟩
   have hn:=hnone (by rw [hno];rfl)
   obtain ⟨A',hl2,hr,hw⟩:=hs0 (heapP U ++ X) (.cells [.nilS,.nilS])
   simp only at hr
   simp only [go_sem,g,decide_true,hc0,zAc,AV.cells,AV.one,zL,zM,zJ,splice,zI,zH,and_self,hw,hr,Tryz.f99,zB,zD,zC,reduceIte,reduceCtorEq,zA]
   exact hn _ _ _ hnt
  ·simp only [go_sem,g,decide_false,h6,zB,zD,zC,reduceIte,reduceCtorEq,zA]
   refine hI hC fun j hj => ?_
   by_cases e:j=i
   ·subst e;omega
   ·exact hP j (by omega)
 ·have hC':¬ (i:Int)<(c:Nat):=by omega
  have hall:((List.range c).all fun i=>decide (0≤ent U i i))=true:=by
   rw [yG]
   intro j hj
   rw [decide_eq_true_iff]
   exact hP j (by have:=List.mem_range.1 hj;omega)
  have hs:=hsome U (by rw [hall];rfl)
  obtain ⟨A',hl2,hr,hw⟩:=hs0 (heapP U ++ X) (.cells [AV.slice (rowsM (H.length+2) c c) c t1,AV.slice (rowsJ (H.length+2) c c) c t2])
  simp only at hr
  simp only [go_sem,l99_5,hC',decide_false,hcB,hc0,zAc,AV.cells,AV.one,zL,zM,zJ,splice,zI,zH,and_self,hw,hr,Tryz.f99,zB,zD,zC,reduceIte,reduceCtorEq,zA]
  exact hs A' X t1 t2 _ _ hl2 hnt
end Go.Av.Lx
end
section
set_option maxHeartbeats 1000000
namespace Go.Av.Lx
open Go Go.Av Go.Av.Tb Go.Av.Fx Go.Proofs
open Go.Lv (Sight Survey Sw Sv SightOk Leg LegOk RangeOk Tun TunOk Try TryOk Stp fallW meetL meetH bestAt driveF wideI)
open Go.Fw (Sq ent Bd Mat)
abbrev choC (f:Nat→Int) (i:Nat):List AV:=[.int .i64 i,.int .i64 (f i)]
def chos (f:Nat→Int) (n:Nat):List AV:=(List.range n).flatMap (choC f)
theorem chos_len (f:Nat→Int) (n:Nat):(chos f n).length=n * 2:=by
 unfold chos;rw [cat_len (f:=choC f) (w:=2) (fun _=>rfl),List.length_range]
theorem chos_bnd (n k:Nat) (f:Nat→Int) (m:Nat):bndL n k (chos f m)=true:=zBb _ (fun _=>rfl) _
theorem chos_succ (f:Nat→Int) (n:Nat):chos f n ++ [.int .i64 n,.int .i64 (f n)]=chos f (n+1):=by
 unfold chos;rw [yD];simp
theorem chos_at (f:Nat→Int) {n k:Nat} (h:k<n):((chos f n).drop (k * 2)).take 2=choC f k:=by
 have:=cat_at (f:=choC f) (w:=2) (fun _=>rfl) (List.range n) k (by simpa using h)
 rw [List.getElem_range] at this
 exact this
theorem narrower_pc (a b c d:Int):PC Tryz.prog 112 [.agg [.int .i64 a,.int .i64 b],.agg [.int .i64 c,.int .i64 d]] (.pure (.bool (decide (b<d)))):=by
 refine PC.of_empty (AC.run (E_ok _) mix Tryz.func112 m112 rfl rfl rfl (zE rfl) ?_) (by simp [bndL,AV.bnd]) rfl
 simp only [go_sem,boxA,Tryz.f112,zB,zD,zC,reduceIte,reduceCtorEq,zA]
theorem best_pc (f:Nat→Int) (n:Nat) (h0:0<n) (hn:n≤1000):PC Tryz.prog 111 [.slice (chos f n) n .unk,.func (.func 112) [] []] (.pure (.agg [.int .i64 (bestAt f (n - 1):Nat),.int .i64 (f (bestAt f (n - 1)))])):=by
 refine PC.of_empty (AC.run (E_ok _) mix Tryz.func111 m111 rfl rfl rfl (zE rfl) ?_) (by simp [bndL,AV.bnd,chos_bnd]) rfl
 have x0:0≤(0:Int)∧(0:Int)<(n:Nat):=by omega
 have x3:0 * 2+2≤(chos f n).length:=by rw [chos_len];omega
 have x4:=chos_at f (k:=0) h0
 have z0:Int.toNat 0=0:=rfl
 have hfun:∀ {n:Nat} {k:Nat},(AV.func (.func 112) [] []).bnd n k=true:=rfl
 simp only [go_sem,x0,x3,x4,z0,and_self,zAc,AV.cells,AV.one,zL,zM,zJ,splice,zI,zH,zAa,zB,zD,zC,reduceIte,reduceCtorEq,zA]
 refine zCu n (fun k=>[(1,.func (.func 112) [] []),(4,.ref 0 0),(5,.ref 1 0),(11,.slice (chos f n) n .unk),(12,.int .i64 n),(13,.int .i64 k)])
  (fun k S => ∃ X,S=⟨[some (.cells [.int .i64 0,.int .i64 0]),some (.cells [.int .i64 (bestAt f (k - 1):Nat),.int .i64 (f (bestAt f (k - 1)))])] ++ X,0,[]⟩) rfl ⟨[],rfl⟩ ?_
 rintro k hk S ⟨X,rfl⟩ I hI
 by_cases hlt:k<n
 ·have h1:(k:Int)<n:=by omega
  have h2:0≤(k:Int)∧(k:Int)<(n:Nat):=by omega
  have h3:k * 2+2≤(chos f n).length:=by rw [chos_len];omega
  have h4:IntKind.i64.wrap ((k:Int)+1)=(k+1:Nat):=wrap64 (by omega)
  have h5:=chos_at f (k:=k) hlt
  have hI:=fun S'=>hI hlt S'
  rw [Nat.add_sub_cancel] at hI
  obtain ⟨L,hL⟩:∃ L,([some (.cells [.int .i64 0,.int .i64 0]),some (.cells [.int .i64 (bestAt f (k - 1):Nat),.int .i64 (f (bestAt f (k - 1)))])] ++ X:List (Option Blk))=L:=⟨_,rfl⟩
  have c1:=zAg L
  have c2:=fun x B=>zAs L x B
  have g1:∀ y,cellsAt (L ++ [y]) 1=some [.int .i64 (bestAt f (k - 1):Nat),.int .i64 (f (bestAt f (k - 1)))]:=fun y=>by rw [← hL];rfl
  have s1:∀ y B,setH (L ++ [y]) 1 B=[some (.cells [.int .i64 0,.int .i64 0]),some B] ++ (X ++ [y]):=fun y B=>by rw [← hL];rfl
  rw [hL]
  simp only [go_sem,l111_0,h1,decide_true,h2,h3,h5,zAe,and_self,c1,c2,g1,zAc,AV.cells,AV.one,zL,zM,zJ,splice,zI,zH,zB,zD,zC,reduceIte,reduceCtorEq,zA]
  refine cp n112 (narrower_pc _ _ _ _) (SubL.refl _) ?_
  by_cases hb:f k<f (bestAt f (k - 1))
  ·have e:bestAt f k=k:=by
    cases k with
    | zero=>rfl
    | succ k =>
     rw [Nat.add_sub_cancel] at hb
     show (if _ then _ else _)=_
     rw [if_pos hb]
   simp only [go_sem,hb,decide_true,c1,g1,s1,zAc,AV.cells,AV.one,zL,zM,zJ,splice,zI,zH,h4,zB,zD,zC,reduceIte,reduceCtorEq,zA]
   exact hI _ ⟨X ++ [some (.cells [.int .i64 k,.int .i64 (f k)])],by rw [e];rfl⟩
  ·have e:bestAt f k=bestAt f (k - 1):=by
    cases k with
    | zero=>rfl
    | succ k =>
     rw [Nat.add_sub_cancel] at hb ⊢
     show (if _ then _ else _)=_
     rw [if_neg hb]
   simp only [go_sem,hb,decide_false,h4,zB,zD,zC,reduceIte,reduceCtorEq,zA]
   exact hI _ ⟨X ++ [some (.cells [.int .i64 k,.int .i64 (f k)])],by rw [e,← hL];simp;try rfl⟩
 ·have h1:¬ (k:Int)<n:=by omega
  have e:k=n:=by omega
  subst e
  simp only [go_sem,l111_0,h1,decide_false,AV.cells,AV.one,zL,zM,zJ,splice,zAc,Tryz.f111,zB,zD,zC,reduceIte,reduceCtorEq,zA]
theorem wide_if (lo hi:Int):(if -hi > if hi > if -lo > lo then -lo else lo then hi else if -lo > lo then -lo else lo then -hi else if hi > if -lo > lo then -lo else lo then hi else if -lo > lo then -lo else lo)=wideI lo hi:=by
 unfold wideI
 repeat' split
 all_goals omega
def drivesA (s:Survey) (x:Tun):AV:=betwA s x.frm x.to (tunB s x) [.int .i64 0,.int .i64 0] fun V=>[.int .i64 (bestAt (driveF V x) 20:Nat),.int .i64 (driveF V x (bestAt (driveF V x) 20))]
theorem Drives_pc (s:Survey) (hl:okL s.sights.length) (x:Tun):PC Tryz.prog 43 [surA s,.agg (tunC x)] (.pure (drivesA s x)):=by
 refine PC.of_empty (AC.run (E_ok _) mix Tryz.func43 m43 rfl rfl rfl (zE rfl) ?_) (by simp [bndL,AV.bnd]) (zFa rfl fun _=>rfl)
 unfold drivesA
 simp only [go_sem,boxA,zB,zD,zC,reduceIte,reduceCtorEq,zA]
 refine qp n109 (isTunnel_pc s x) (SubL.refl _) ?_
 simp only [go_sem,zB,zD,zC,reduceIte,reduceCtorEq,zA]
 refine qp n84 (zCj s hl x.frm x.to (tunB s x)) (SubL.refl _) ?_
 rcases zDf s x.frm x.to (tunB s x) [.int .i64 0,.int .i64 0] (fun V=>[.int .i64 (bestAt (driveF V x) 20:Nat),.int .i64 (driveF V x (bestAt (driveF V x) 20))]) with ⟨k,hk,_,e1,e2⟩ | ⟨V,hv,hf,hV,hj,e1,e2⟩
 ·rw [e1,e2]
  simp only [go_sem,zAd,hk,Tryz.f43,zB,zD,zC,reduceIte,reduceCtorEq,zA]
  all_goals rfl
 rw [e1,e2]
 simp only [go_sem,zAd,kvC,zB,zD,zC,reduceIte,reduceCtorEq,zA]
 have hto:=(tun_iff hv.st).1 hf
 have hstep:∀ k:Nat,k≤20→TunOk s.stations (Lv.withFall x k):=fun k hk=>⟨hto.frm,hto.to,hto.ne,hto.long,by show 0≤(k:Int)∧(k:Int)≤20;omega,hto.err⟩
 have hjk:∀ k:Nat,JoinP s V (Lv.withFall x k).frm (Lv.withFall x k).to:=fun k=>hj
 refine zAu (fun m ts' S' => ∃ k W nt tk X y,k≤21∧m=21 - k∧ts'=[(3,.ref 1 0),(7,.ref 2 0),(9,W),(28,.int .i64 (k:Nat))]∧S'=⟨[some (.cells (surC s)),some (.cells (tunC (Lv.withFall x y))),some (.cells (kvC s (wS V)))] ++ X,nt,tk⟩∧Own (chos (driveF V x) k) k W nt tk) 21 ⟨0,.nilS,0,[],[],x.fall,by omega,rfl,rfl,rfl,Own.nil _ _⟩ ?_
 rintro m ts' S' ⟨k,W,nt,tk,X,y,hk,rfl,rfl,rfl,ho⟩
 by_cases hlt:k<21
 ·have h1:(k:Int)<21:=by omega
  have h4:IntKind.i64.wrap ((k:Int)+1)=(k+1:Nat):=wrap64 (by omega)
  have hp:=meets_pc s V (Lv.withFall x k) (hstep k (by omega)) (hjk k)
  simp only [go_sem,l43_0,h1,decide_true,kvC,zB,zD,zC,reduceIte,reduceCtorEq,zA]
  refine cp n110 hp (SubL.refl _) ?_
  have c1:∀ a b c l,cellsAt (a :: b :: c :: (X ++ [some (.cells l)])) (X.length+1+1+1)=some l:=fun a b c l=>zAg (a :: b :: c :: X) l
  have c2:∀ a b c x B,setH (a :: b :: c :: (X ++ [x])) (X.length+1+1+1) B=a :: b :: c :: (X ++ [some B]):=fun a b c x B=>zAs (a :: b :: c :: X) x B
  have f1:=(hstep k (by omega)).fall'
  have f2:=(hstep k (by omega)).err'
  have e1':=hj.e1
  have e2':=hj.e2
  have w1:IntKind.i64.wrap (0 - meetL V (Lv.withFall x k)) = -meetL V (Lv.withFall x k):=by
   rw [wrap64 (by unfold meetL;simp only [Lv.withFall] at f1 f2 ⊢;omega)];omega
  have w2:IntKind.i64.wrap (0 - meetH V (Lv.withFall x k)) = -meetH V (Lv.withFall x k):=by
   rw [wrap64 (by unfold meetH;simp only [Lv.withFall] at f1 f2 ⊢;omega)];omega
  simp only [go_sem,meetA,c1,c2,w1,w2,zAc,AV.cells,AV.one,zL,zM,zJ,splice,zI,zH,zAa,maxsA,unA,zW,zB,zD,zC,reduceIte,reduceCtorEq,zA]
  rw [wide_if]
  refine zEf (lx:=[.int .i64 k,.int .i64 (driveF V x k)]) rowChoices ho (chos_len _ _) rfl (by decide) rfl (by omega) fun W' tk' g => ?_
  simp only [go_sem,h4,zB,zD,zC,reduceIte,reduceCtorEq,zA]
  refine zAj (21 - (k+1)) (by omega) ⟨k+1,W',nt+1,tk',_,(k:Int),by omega,rfl,rfl,rfl, ?_⟩
  have:=g.own
  rw [chos_succ] at this
  exact this
 ·have h1:¬ (k:Int)<21:=by omega
  have e:k=21:=by omega
  subst e
  have c1:∀ a b c l,cellsAt (a :: b :: c :: (X ++ [some (.cells l)])) (X.length+1+1+1)=some l:=fun a b c l=>zAg (a :: b :: c :: X) l
  have c2:∀ a b c x B,setH (a :: b :: c :: (X ++ [x])) (X.length+1+1+1) B=a :: b :: c :: (X ++ [some B]):=fun a b c x B=>zAs (a :: b :: c :: X) x B
  simp only [go_sem,l43_0,h1,decide_false,zB,zD,zC,reduceIte,reduceCtorEq,zA]
  refine cp n111 (best_pc (driveF V x) 21 (by decide) (by decide)) (SubL.cons ho.sub (SubL.refl _)) ?_
  simp only [go_sem,c1,c2,zAc,AV.cells,AV.one,zL,zM,zJ,splice,zI,zH,Tryz.f43,zB,zD,zC,reduceIte,reduceCtorEq,zA]
  all_goals rfl
set_option maxHeartbeats 1000000
theorem rJ_get {n:Nat} {V:Mat} (h:Sq n V) {i:Nat} (hi:i<n):((rJ V).map bl)[i]? = some (.slice (bools ((V.getD i []).map jo)) n .unk):=by
 have h1:=h.getD hi
 have hl:i<V.length:=by rw [h.1];exact hi
 have hg:V.getD i []=V[i]:=by rw [zG,zF hl];rfl
 unfold rJ
 rw [List.map_map,qD,zF hl]
 rw [hg] at h1 ⊢
 show some (AV.slice (bools (V[i].map jo)) (V[i].map jo).length .unk)=_
 rw [yS,h1]
theorem rJ_len {n:Nat} {V:Mat} (h:Sq n V):(rJ V).length=n:=by unfold rJ;rw [yS];exact h.1
theorem rM_len {n:Nat} {V:Mat} (h:Sq n V):(rM V).length=n:=by unfold rM;rw [yS];exact h.1
@[go_sem] theorem bd_span (p q:Int):buildA T 28 [(0,.int .i64 p),(1,.int .i64 q)]=some (.agg [.int .i64 p,.int .i64 q]):=rfl
theorem rBase_pc {V:Mat} {n:Nat} (h:Sq n V) (hn:n≤1000) {j:Nat} (hj:j<n) (hd:ent V j j<far):PC Tryz.prog 68 [rA V,.int .i64 j] (.pure (.int .i64 (baseG V n j))):=by
 have hb:=rA_bnd 0 0 V
 refine PC.of_empty (AC.run (E_ok _) mix Tryz.func68 m68 rfl rfl rfl (zE rfl) ?_) (by simp only [bndL,hb];rfl) rfl
 simp only [go_sem,boxA,zB,zD,zC,reduceIte,reduceCtorEq,zA]
 refine zBd n (fun k => ∀ b,b<k → ¬ ent V b j<far) (fun k=>[(1,.int .i64 j),(2,.ref 0 0),(5,.int .i64 k)]) (fun k=>⟨[some (.cells [wS (rM V),.slice ((rJ V).map bl) (rJ V).length .unk])],0,[]⟩) (fun b hb=>absurd hb (qO _)) rfl rfl ?_
 intro k hk hP I hI
 have hlt:k<n:=by
  refine Nat.lt_of_not_le fun hh => ?_
  exact hP j (by omega) hd
 have ga:=rJ_get h hlt
 have e:=ent_J h hlt hj
 have xa:0≤(k:Int)∧(k:Int)<((rJ V).length:Int):=by have:=rJ_len h;omega
 have xb:0≤(j:Int)∧(j:Int)<(n:Int):=by omega
 have h4:IntKind.i64.wrap ((k:Int)+1)=(k+1:Nat):=wrap64 (by omega)
 by_cases hf:ent V k j<far
 ·have hb:baseG V n j=k:=by
   unfold baseG
   have:(List.range n).find? (fun b=>decide (ent V b j<far))=some k:=by
    rw [List.find?_eq_some_iff_append]
    refine ⟨by rw [decide_eq_true hf],List.range k,(List.range (n - (k+1))).map (fun x=>k+1+x), ?_,fun b hb => ?_⟩
    ·have:n=k+1+(n - (k+1)):=by omega
     conv=>lhs;rw [this,List.range_add,yD]
     simp
    ·have:=hP b (List.mem_range.1 hb)
     simp [this]
   rw [this];rfl
  have hjo:jo (ent V k j)=true:=decide_eq_true hf
  rw [hjo] at e
  simp only [go_sem,l68_0,xa,xb,ga,e,zAe,and_self,unA,zY,Tryz.f68,zB,zD,zC,reduceIte,reduceCtorEq,zA]
  rw [hb]
 ·have hjo:jo (ent V k j)=false:=decide_eq_false hf
  rw [hjo] at e
  simp only [go_sem,l68_0,xa,xb,ga,e,zAe,and_self,unA,qE,h4,zB,zD,zC,reduceIte,reduceCtorEq,zA]
  refine hI hlt fun b hb => ?_
  by_cases e:b=k
  ·subst e;exact hf
  ·exact hP b (by omega)
theorem baseG_far {V:Mat} {n j:Nat} (hj:j<n) (hd:ent V j j<far):ent V (baseG V n j) j<far:=by
 unfold baseG
 cases h:(List.range n).find? fun b=>decide (ent V b j<far) with
 | none=>exact hd
 | some b=>have:=List.find?_some h;exact of_decide_eq_true this
set_option maxHeartbeats 1000000
theorem rG_frz {A C:List (Option Blk)} {n off:Nat} {V:Mat} (h:Sq n V) (ho:A.length=off) (t1 t2:Tail):Frz (A ++ (heapP V ++ C)) (rG off n t1 t2) (rA V):=by
 have hrow:∀ {j:Nat},j<n → ∃ hl:j<V.length,V.getD j []=V[j]∧V[j].length=n:=fun {j} hj=>by
  have hl:j<V.length:=by rw [h.1];exact hj
  exact ⟨hl,by rw [zG,zF hl];rfl,h.2 j _ (zF hl)⟩
 refine .agg _ _ rfl fun i x y hx hy => ?_
 match i,hx,hy with
 | 0,hx,hy =>
  simp at hx hy;subst hx;subst hy
  show Frz _ _ (.slice ((rM V).map sl) (rM V).length .unk)
  rw [rM_len h]
  refine .slice _ _ _ _ (by simp [rM,h.1]) fun j x y hx hy => ?_
  have hj:j<n:=by
   rcases zV j n with h' | h'
   ·exact h'
   ·rw [zO (by simpa using h')] at hx;cases hx
  obtain ⟨hl,hg,hlen⟩:=hrow hj
  rw [zDs hj] at hx
  simp only [xA] at hx
  subst hx
  unfold rM at hy
  rw [List.map_map,qD,zF hl] at hy
  simp only [zW,xA] at hy
  subst hy
  have hc:=(zEx (C:=C) h hj ho).1
  rw [hg] at hc
  have:=Frz.row (h:=A ++ (heapP V ++ C)) (off+2 * j) 0 n n 1 _ hc (by simp [hlen]) (zN _)
  rw [List.drop_zero,yY (by simp [hlen])] at this
  show Frz _ _ (.slice (ints (V[j].map mo)) (V[j].map mo).length .unk)
  rw [yS,hlen];exact this
 | 1,hx,hy =>
  simp at hx hy;subst hx;subst hy
  show Frz _ _ (.slice ((rJ V).map bl) (rJ V).length .unk)
  rw [rJ_len h]
  refine .slice _ _ _ _ (by simp [rJ,h.1]) fun j x y hx hy => ?_
  have hj:j<n:=by
   rcases zV j n with h' | h'
   ·exact h'
   ·rw [zO (by simpa using h')] at hx;cases hx
  obtain ⟨hl,hg,hlen⟩:=hrow hj
  rw [zDt hj] at hx
  simp only [xA] at hx
  subst hx
  unfold rJ at hy
  rw [List.map_map,qD,zF hl] at hy
  simp only [zW,xA] at hy
  subst hy
  have hc:=(zEx (C:=C) h hj ho).2
  rw [hg] at hc
  have:=Frz.row (h:=A ++ (heapP V ++ C)) (off+2 * j+1) 0 n n 1 _ hc (by simp [hlen]) (zN _)
  rw [List.drop_zero,yY (by simp [hlen])] at this
  show Frz _ _ (.slice (bools (V[j].map jo)) (V[j].map jo).length .unk)
  rw [yS,hlen];exact this
 | i+2,hx,hy=>simp at hx
theorem all_or {n:Nat} {by' off:Int} {l:List Sight} (h:AllOk n by' off l) (hl:l.length≤100) (H:List (Option Blk)) (N:Nat) (toks:List Nat) :
  AC Tryz.prog 99 [.int .i64 n,.slice (sgts l) l.length .unk,.int .i64 by',.int .i64 off] ⟨H,N,toks⟩ fun e S' =>
   (Lv.clo n (allB by' off l)=none∧e=.ret (.tuple [.agg [.nilS,.nilS],.bool false]) ∧ ∃ A nt tk,N≤nt∧S'=⟨H ++ A,nt,tk⟩) ∨
   (∃ V,Lv.clo n (allB by' off l)=some V ∧ ∃ A C t1 t2 nt tk,e=.ret (.tuple [rG (H.length+2) n t1 t2,.bool true])∧S'=⟨H ++ (A ++ (heapP V ++ C)),nt,tk⟩∧A.length=2∧N≤nt):=
 all_ac h hl H N toks _ (fun h0 A nt tk hN=>.inl ⟨h0,rfl,A,nt,tk,hN,rfl⟩) fun V hV A C t1 t2 nt tk h2 hN=>.inr ⟨V,hV,A,C,t1,t2,nt,tk,rfl,rfl,h2,hN⟩
theorem all_ok {s:Survey} (h:Sw s):AllOk (Lv.num s) 1 (-1) s.sights:=by
 have:=h.st
 have e:((Lv.num s:Nat):Int)=s.stations:=by show ((s.stations.toNat:Nat):Int)=_;omega
 exact ⟨by show 1≤s.stations.toNat∧s.stations.toNat≤8;omega,fun x hx=>by rw [e];exact h.sights x hx,by decide,by decide⟩
theorem rKnown_ac (s:Survey) (h:Sw s) (hl:s.sights.length≤100) (H:List (Option Blk)) (N:Nat) (toks:List Nat):AC Tryz.prog 65 [surA s] ⟨H,N,toks⟩ fun e S' =>
   (Lv.knownV s=none∧e=.ret (.tuple [.agg [.nilS,.nilS],.bool false]) ∧ ∃ A nt tk,N≤nt∧S'=⟨H ++ A,nt,tk⟩) ∨
   (∃ V,Lv.knownV s=some V ∧ ∃ A C t1 t2 nt tk,e=.ret (.tuple [rG (H.length+4) (Lv.num s) t1 t2,.bool true])∧S'=⟨H ++ (A ++ (heapP V ++ C)),nt,tk⟩∧A.length=4∧N≤nt):=by
 refine AC.run (Es_ok _ _) mix Tryz.func65 m65 rfl rfl rfl (zE rfl) ?_
 have hst:s.stations=(Lv.num s:Int):=by have:=h.st;show _=((s.stations.toNat:Nat):Int);omega
 have hk:Lv.knownV s=Lv.clo (Lv.num s) (allB 1 (-1) s.sights):=by rw [all_known];rfl
 rw [hk]
 have l0:∀ x,(H ++ [x]).length=H.length+1:=fun x=>by simp
 have l1:∀ x y,(H ++ [x,y]).length=H.length+2:=fun x y=>by simp
 have g0:∀ l X,cellsAt (H ++ some (.cells l) :: X) H.length=some l:=fun l X=>by
  unfold cellsAt;rw [zR (zN _),yX];rfl
 have g1:∀ x l X,cellsAt (H ++ x :: some (.cells l) :: X) (H.length+1)=some l:=fun x l X=>by
  unfold cellsAt;rw [zR (by omega),qX];rfl
 have s1:∀ x y X B,setH (H ++ x :: y :: X) (H.length+1) B=H ++ x :: some B :: X:=fun x y X B=>by
  rw [zBl];rfl
 simp only [go_sem,boxA,l0,l1,g0,g1,zB,zD,zC,reduceIte,reduceCtorEq,zA]
 have hst':=hst
 generalize hn:Lv.num s=n at *
 rw [hst']
 refine zBf (E:=Es _ _) n99 (all_or (by rw [← hn];exact all_ok h) hl _ N toks) (fun v S' hR => ?_) (fun v S' hR => ?_)
 ·rcases hR with ⟨h0,e,A,nt,tk,hN,rfl⟩ | ⟨V,hV,A,C,t1,t2,nt,tk,e,rfl,h2,hN⟩
  ·cases e
   simp only [go_sem,zAd,g0,g1,s1,zAc,AV.cells,AV.one,zL,zM,zJ,splice,zI,zH,and_self,qG,qP,qR,Tryz.f65,zB,zD,zC,reduceIte,reduceCtorEq,zA]
   exact .inl ⟨h0,_,nt,tk,hN,rfl⟩
  ·cases e
   simp only [go_sem,zAd,l1,g0,g1,s1,zAc,AV.cells,AV.one,zL,zM,zJ,splice,zI,zH,and_self,qG,qP,qR,Tryz.f65,zB,zD,zC,reduceIte,reduceCtorEq,zA]
   exact .inr ⟨V,hV,some (.cells [.int .i64 n,.slice (sgts s.sights) s.sights.length .unk]) :: some (.cells [.slice (rowsM (H.length+2+2) n n) n t1,.slice (rowsJ (H.length+2+2) n n) n t2]) :: A,C,t1,t2,nt,tk,rfl,by simp,by simp [h2],hN⟩
 ·rcases hR with ⟨h0,e,A,nt,tk,hN,rfl⟩ | ⟨V,hV,A,C,t1,t2,nt,tk,e,rfl,h2,hN⟩
  ·cases e
  ·cases e
def rknownA (s:Survey):AV:=match Lv.knownV s with
 | some V=>.tuple [rA V,.bool true]
 | none=>.tuple [.agg [.nilS,.nilS],.bool false]
theorem rknownA_bnd (s:Survey):(rknownA s).bnd 0 0=true:=by
 unfold rknownA
 split
 ·rename_i V _
  have:=rA_bnd 0 0 V
  show bndL 0 0 [rA V,.bool true]=true
  simp only [bndL,this];rfl
 ·rfl
theorem rKnown_pc (s:Survey) (h:Sw s) (hl:s.sights.length≤100):PC Tryz.prog 65 [surA s] (.pure (rknownA s)):=by
 refine PC.of_frz ((rKnown_ac s h hl [] 0 []).mono fun e S' hR => ?_) (by simp [bndL,AV.bnd]) (rknownA_bnd s)
 unfold rknownA
 rcases hR with ⟨h0,e,A,nt,tk,hN,rfl⟩ | ⟨V,hV,A,C,t1,t2,nt,tk,e,rfl,h2,hN⟩
 ·rw [h0]
  exact ⟨_,e,.same _⟩
 ·rw [hV]
  refine ⟨_,e,Frz.two ?_ (.same _)⟩
  rw [qR]
  exact rG_frz (zBe (ds:=[]) hV) (by simp [h2]) t1 t2
set_option maxHeartbeats 1000000
abbrev zeroR:AV:=.agg [.nilS,.nilS]
def leastF (f:Nat→Int) (k:Nat):Int:=if k=0 then -1 else f (bestAt f (k - 1))
end Go.Av.Lx
end
