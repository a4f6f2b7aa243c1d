/- Part 18 of the proof. -/
import Derived.Test.YtclmbbofpaecaaaGreatDoorVn17
import Derived.Test.YtclmbbofpaecaaaGreatDoorVn14
set_option linter.all false
set_option linter.unusedVariables false
set_option linter.unusedSimpArgs false
set_option linter.unusedSectionVars false
open Bool renaming and_self → zJ
open Int renaming toNat_natCast → qO, le_trans → yQ
open List renaming getElem?_eq_getElem → zF, getD_eq_getElem?_getD → zG, set_cons_succ → zH, set_cons_zero → zI, all_cons → zL, getElem?_eq_none → zN, all_nil → zO, mem_cons_self → zP, mem_cons_of_mem → zR, getElem?_append_right → zY, getElem_mem → qB, length_append → qC, take_succ_eq_append_getElem → qM, append_assoc → qN, map_append → qS, flatMap_cons → qW, cons_append → qX, not_mem_nil → yA, nil_append → yB, getElem?_set → yC, all_eq_true → yG, mem_cons → yM, range_succ → yN, take_length → yO
open Nat renaming reduceLeDiff → zA, reduceEqDiff → zB, reduceAdd → zC, reduceBEq → zD, le_of_ble_eq_true → zE, le_refl → zM, lt_or_ge → zU, zero_le → qG, not_lt_zero → qU, mul_one → yL
open Option renaming getD_some → qD
open Option.some renaming injEq → yT
section
set_option maxHeartbeats 4000000
namespace Go.Av.Fx
open Go Go.Av Go.Av.Tb Go.Proofs
open Go.Lv (Sight Survey Sw Sv SightOk)
open Go.Fw (Sq ent Bd Mat upd row stage upto)
structure BOk (n:Nat) (x:Bound):Prop where
 a:0≤x.a∧x.a<n
 b:0≤x.b∧x.b<n
 m:-20000≤x.most∧x.most≤20000
def moreB (s:Survey) (ds:List Bound):List Bound:=ds ++ s.sights.flatMap sB
abbrev kvC (s:Survey) (v:AV):List AV:=[.int .i64 s.stations,.slice (sgts s.sights) s.sights.length .unk,v]
attribute [go_sem] kvC
theorem more_ok {s:Survey} (h:Sw s) {ds:List Bound} {n:Nat} (hn:n=Lv.num s) (hok:∀ x∈ds,BOk n x):∀ x∈moreB s ds,BOk n x:=by
 have hst:s.stations=(n:Int):=by have:=h.st;rw [hn];show _=((s.stations.toNat:Nat):Int);omega
 intro x hx
 rcases List.mem_append.1 hx with hx | hx
 ·exact hok x hx
 ·obtain ⟨y,hy,hxy⟩:=List.mem_flatMap.1 hx
  have q:=h.sights y hy
  have q1:=q.frm;have q2:=q.to;have q3:=q.rise;have q4:=q.off
  have w1:IntKind.i64.wrap (y.rise+y.off)=y.rise+y.off:=wrap64 (by omega)
  have w2:IntKind.i64.wrap (y.off - y.rise)=y.off - y.rise:=wrap64 (by omega)
  simp only [sB,yM,yA,or_false,w1,w2] at hxy
  rcases hxy with rfl | rfl
  ·exact ⟨by show 0≤y.frm∧y.frm<_;omega,by show 0≤y.to∧y.to<_;omega,by show _≤y.rise+y.off∧y.rise+y.off≤_;omega⟩
  ·exact ⟨by show 0≤y.to∧y.to<_;omega,by show 0≤y.frm∧y.frm<_;omega,by show _≤y.off - y.rise∧y.off - y.rise≤_;omega⟩
theorem moreB_len (s:Survey) (ds:List Bound):(moreB s ds).length=ds.length+2 * s.sights.length:=by
 have:∀ l:List Sight,(l.flatMap sB).length=2 * l.length:=fun l=>by
  induction l with
  | nil=>rfl
  | cons x l ih=>rw [qW,qC,ih];simp [sB];omega
 rw [moreB,qC,this]
theorem put_same {n:Nat} {V:Mat} (h:Sq n V) (a b:Nat):Fw.put V a b (ent V a b)=V:=by
 unfold Fw.put ent
 apply List.ext_getElem?
 intro i
 rw [yC]
 split
 ·rename_i e
  subst e
  split
  ·rename_i hl
   rw [zF hl,zG,zF hl]
   congr 1
   apply List.ext_getElem?
   intro j
   rw [yC]
   split
   ·rename_i e
    subst e
    split
    ·rename_i hb
     simp only [qD] at hb ⊢
     rw [zG,zF hb];rfl
    ·rename_i hb
     simp only [qD] at hb
     rw [zN (by omega)]
   ·rfl
  ·rename_i hl
   rw [zN (by omega)]
 ·rfl
theorem upd_sum {n:Nat} {V:Mat} (h:Sq n V) {a b c:Nat} (hab:ent V a b≤far):Fw.put V a b (if (if ent V a c ≥ far then far else if ent V c b ≥ far then far else ent V a c+ent V c b)<ent V a b then (if ent V a c ≥ far then far else if ent V c b ≥ far then far else ent V a c+ent V c b) else ent V a b)=upd far c a V b:=by
 unfold upd
 by_cases h1:ent V a c ≥ far
 ·rw [if_pos h1,if_neg (show ¬ far<ent V a b by omega),if_neg (show ¬ (ent V a c<far∧ent V c b<far) by omega),put_same h]
 ·rw [if_neg h1]
  by_cases h2:ent V c b ≥ far
  ·rw [if_pos h2,if_neg (show ¬ far<ent V a b by omega),if_neg (show ¬ (ent V a c<far∧ent V c b<far) by omega),put_same h]
  ·rw [if_neg h2,if_pos (⟨by omega,by omega⟩:ent V a c<far∧ent V c b<far)]
   congr 1
   rw [Int.min_def]
   split <;> split <;> omega
theorem sumF2 {x y:Int} (h:IntKind.i64.wrap (x+y)=x+y) (hx:IntKind.i64.wrap (0+x)=x):sumF 0 [x,y]=if x ≥ far then far else if y ≥ far then far else x+y:=by
 simp only [sumF,hx,h]
theorem callq_alloc {E:Env} {f:FuncId} {args args':List AV} {S:St} {K:AV→St→Prop} {h1:Hold K} {B:Blk} {mk:Nat→AV} (hf:Callable E.P f) (h:PC E.P f args' (.alloc B mk)) (hs:SubL args args') (k:K (mk S.heap.length) { S with heap:=S.heap ++ [some B] }):sqc E K h1 (some (f,args)) S:=callq hf h hs rfl rfl k
def Mx (s:Survey) (ds:List Bound) (M:AV) (S:St) (N:Nat):Prop:=MoreA ds M S N∨(s.sights=[]∧M=.slice (bnds ds) ds.length .unk)
theorem Mx.mono {s:Survey} {ds:List Bound} {M:AV} {S S':St} {N N':Nat} (h:Mx s ds M S N) (ht:∀ k∈S.toks,k<N→k∈S'.toks) (hN:N≤N'):Mx s ds M S' N':=h.imp (fun h=>h.mono ht hN) id
theorem RowA.app2 {off n a:Nat} {V:AV} {toks:List Nat} {N:Nat} {h:List (Option Blk)} {nt:Nat} (h':RowA off n a V toks N nt) (ha:a≤1000) (hN:N≤nt) {b:St} {K:AV→St→Prop} {hK:Hold K}
  (next:∀ toks',RowA off n (a+1) (.slice (rowsO off (a+1) n) (a+1) (.tok nt)) toks' N (nt+1)→(∀ k∈toks,k<N→k∈toks')→K (.slice (rowsO off (a+1) n) (a+1) (.tok nt)) ⟨h,nt+1,toks'⟩) :
  sr K hK (appendA T b 35 V (.slice [.sref (off+a) 0 n n] 1 .exact)) ⟨h,nt,toks⟩:=by
 have hr:RowA off n (a+1) (.slice (rowsO off (a+1) n) (a+1) (.tok nt)) (nt :: toks) N (nt+1):=.inr ⟨nt,rfl,zP,hN,Nat.lt_succ_self _⟩
 rcases h' with ⟨rfl,rfl⟩ | ⟨k,rfl,hk,hkN,hkn⟩
 ·have:appendA T b 35 .nilS (.slice [.sref (off+0) 0 n n] 1 .exact)=some (.tok none (fun j=>.slice [.sref (off+0) 0 n n] 1 (.tok j))):=rfl
  rw [this,sr_tok]
  exact next _ hr (fun k hk _=>zR _ hk)
 ·rw [zCs (e:=32) (ei:=ti32) (lx:=[.sref (off+a) 0 n n]) (nx:=1) rfl rfl (by decide) rfl (by decide) rfl (by rw [show ti32.bytes=24 from rfl];omega) (by omega) (by rw [rowsO_len,show ti32.size=1 from rfl];omega)]
  rw [zBu]
  refine ⟨hk, ?_⟩
  rw [rowsO_snoc]
  refine next _ (.inr ⟨nt,rfl,zP,hN,Nat.lt_succ_self _⟩) (fun j hj hjN=>zR _ ?_)
  unfold killTok
  exact List.mem_filter.2 ⟨hj,by simp;omega⟩
theorem known_run (s:Survey) (h:Sw s) (hl:s.sights.length≤100) (ds:List Bound) (hd:ds.length≤1000) (hok:∀ x∈ds,BOk (Lv.num s) x) (M:AV) (H:List (Option Blk)) (N:Nat) (toks:List Nat) (hM:Mx s ds M ⟨H,N,toks⟩ N) (R:AEnd→St→Prop)
  (hnone:Fw.closed far (Lv.num s) ((moreB s ds).foldl putB (mat0 (Lv.num s) (Lv.num s)))=none → ∀ (a:Int) (A:List (Option Blk)) (nt:Nat) (tk:List Nat),N≤nt→R (.panic (.iface 191 (.agg [.int .i64 a]))) ⟨H ++ A,nt,tk⟩)
  (hsome:∀ V,Fw.closed far (Lv.num s) ((moreB s ds).foldl putB (mat0 (Lv.num s) (Lv.num s)))=some V → ∀ (A C:List (Option Blk)) (t:Tail) (nt:Nat) (tk:List Nat),A.length=3→N≤nt→R (.ret (.agg (kvC s (.slice (rowsO (H.length+3) (Lv.num s) (Lv.num s)) (Lv.num s) t)))) ⟨H ++ (A ++ (heapR V ++ C)),nt,tk⟩) :
  AC Tryz.prog 94 [surA s,M] ⟨H,N,toks⟩ R:=by
 obtain ⟨n,hn⟩:∃ n,n=Lv.num s:=⟨_,rfl⟩
 have hst:s.stations=(n:Int):=by have:=h.st;rw [hn];show _=((s.stations.toNat:Nat):Int);omega
 have hn2:2≤n∧n≤8:=by have:=h.st;omega
 rw [← hn] at hok hnone hsome
 refine AC.run (Es_ok _ _) mix Tryz.func94 m94 rfl rfl rfl (zE rfl) ?_
 have l0:∀ x,(H ++ [x]).length=H.length+1:=fun x=>by simp
 have l1:∀ x y,(H ++ [x,y]).length=H.length+2:=fun x y=>by simp
 have l2:∀ x y z,(H ++ [x,y,z]).length=H.length+3:=fun x y z=>by simp
 have g0:∀ l X,cellsAt (H ++ some (.cells l) :: X) H.length=some l:=fun l X=>by
  unfold cellsAt;rw [zY (zM _),Nat.sub_self];rfl
 have g1:∀ x l X,cellsAt (H ++ x :: some (.cells l) :: X) (H.length+1)=some l:=fun x l X=>by
  unfold cellsAt;rw [zY (by omega),Nat.add_sub_cancel_left];rfl
 have g2:∀ x y l X,cellsAt (H ++ x :: y :: some (.cells l) :: X) (H.length+2)=some l:=fun x y l X=>by
  unfold cellsAt;rw [zY (by omega),Nat.add_sub_cancel_left];rfl
 have s2:∀ x y z X B,setH (H ++ x :: y :: z :: X) (H.length+2) B=H ++ x :: y :: some B :: X:=fun x y z X B=>by
  rw [zDf];rfl
 simp only [go_sem,boxA,l0,l1,l2,g0,g2,s2,hst,zB,zD,zC,reduceIte,reduceCtorEq,zA]
 obtain ⟨sg,hsg⟩:∃ sg,sg=AV.slice (sgts s.sights) s.sights.length .unk:=⟨_,rfl⟩
 obtain ⟨A,hA⟩:∃ A:AV→List (Option Blk),A=fun V=>H ++ [some (.cells [.int .i64 n,.slice (sgts s.sights) s.sights.length .unk]),some (.cells [.int .i64 0,.nilS,.nilS]),some (.cells [.int .i64 n,.slice (sgts s.sights) s.sights.length .unk,V])]:=⟨_,rfl⟩
 have lA:∀ V,(A V).length=H.length+3:=fun V=>by rw [hA];simp
 have a0:∀ V X,cellsAt (A V ++ X) H.length=some [.int .i64 n,.slice (sgts s.sights) s.sights.length .unk]:=fun V X=>by rw [hA];simp only [qN,qX,yB];exact g0 _ _
 have a2:∀ V X,cellsAt (A V ++ X) (H.length+2)=some [.int .i64 n,.slice (sgts s.sights) s.sights.length .unk,V]:=fun V X=>by rw [hA];simp only [qN,qX,yB];exact g2 _ _ _ _
 have b2:∀ V V' X,setH (A V ++ X) (H.length+2) (.cells [.int .i64 n,.slice (sgts s.sights) s.sights.length .unk,V'])=A V' ++ X:=fun V V' X=>by rw [hA];simp only [qN,qX,yB];exact s2 _ _ _ _ _
 have a1:∀ V X,cellsAt (A V ++ X) (H.length+1)=some [.int .i64 0,.nilS,.nilS]:=fun V X=>by rw [hA];simp only [qN,qX,yB];exact g1 _ _ _
 have b1:∀ V B X,∃ A',A'.length=3∧cellsAt (H ++ (A' ++ X)) (H.length+1)=(match B with | Blk.cells l=>some l | _=>none)∧setH (A V ++ X) (H.length+1) B=H ++ (A' ++ X):=fun V B X=>by
  refine ⟨[some (.cells [.int .i64 n,.slice (sgts s.sights) s.sights.length .unk]),some B,some (.cells [.int .i64 n,.slice (sgts s.sights) s.sights.length .unk,V])],rfl, ?_, ?_⟩
  ·simp only [qN,qX,yB]
   unfold cellsAt
   rw [zY (by omega),Nat.add_sub_cancel_left]
   cases B <;> rfl
  ·rw [hA]
   simp only [qN,qX,yB]
   rw [zDf];rfl
 refine zAu (fun m ts' S' => ∃ a V nt tk,a≤n∧m=n - a∧ts'=[(1,M),(2,.ref H.length 0),(4,.ref (H.length+1) 0),(5,.ref (H.length+2) 0),(18,.int .i64 n),(19,.int .i64 a)]∧S'=⟨A V ++ heapR (mat0 n a),nt,tk⟩∧RowA (H.length+3) n a V tk N nt∧Mx s ds M ⟨H,nt,tk⟩ N∧N≤nt) n ⟨0,.nilS,N,toks,qG _,rfl,rfl,by rw [hA];simp [mat0,heapR],.inl ⟨rfl,rfl⟩,hM,zM _⟩ ?_
 rintro m ts' S' ⟨a,V,nt,tk,ha,rfl,rfl,rfl,hV,hM',hnt⟩
 have lR:(A V ++ heapR (mat0 n a)).length=H.length+3+a:=by rw [qC,lA,heapR_len];simp [mat0]
 by_cases hlt:a<n
 ·have h1:(a:Int)<n:=by omega
  have h4:IntKind.i64.wrap ((a:Int)+1)=(a+1:Nat):=wrap64 (by omega)
  have hm0:(mat0 n a).length=a:=by simp [mat0]
  simp only [go_sem,l94_0,h1,decide_true,a0,a2,zB,zD,zC,reduceIte,reduceCtorEq,zA]
  refine callq_alloc (E:=Es _ _) n150 (repeat_pc far n (by omega) (by omega)) (SubL.cons (Sub.unk _ 1 .exact) (SubL.refl _)) ?_
  simp only [go_sem,lR,zAa,zB,zD,zC,reduceIte,reduceCtorEq,zA]
  refine RowA.app2 hV (by omega) hnt fun tk' hV' hkp => ?_
  have hM2:Mx s ds M ⟨H,nt+1,tk'⟩ N:=hM'.mono hkp (zM _)
  have h2:0≤(a:Int)∧(a:Int)<(a+1:Nat):=by omega
  have h3:0≤(a:Int)∧(a:Int)<(n:Nat):=by omega
  have hr:(rowsO (H.length+3) (a+1) n)[a]? = some (.sref (H.length+3+a) 0 n n):=zDb (by omega)
  have hvc:(AV.slice (rowsO (H.length+3) (a+1) n) (a+1) (.tok nt)).cells=[AV.slice (rowsO (H.length+3) (a+1) n) (a+1) (.tok nt)]:=rfl
  have hv1:(AV.slice (rowsO (H.length+3) (a+1) n) (a+1) (.tok nt)).one=true:=rfl
  obtain ⟨V',hVe⟩:∃ V',V'=AV.slice (rowsO (H.length+3) (a+1) n) (a+1) (.tok nt):=⟨_,rfl⟩
  rw [← hVe] at hvc hv1 hV' ⊢
  have hc:=cells_end (A:=A V') hm0 (ints (List.replicate n far)) (lA V')
  have hk1:a+1≤n:=hlt
  have hset:setH (A V' ++ (heapR (mat0 n a) ++ [some (.cells (ints (List.replicate n far)))])) (H.length+3+a) (.cells ((ints (List.replicate n far)).set a (.int .i64 0)))=A V' ++ heapR (mat0 n (a+1)):=by
   rw [← lA V',zDf,heapR_snoc,zDt]
   have:=setH_R (g:=[]) (r:=(List.replicate n far).set a 0) (R:=mat0 n a ++ [List.replicate n far]) (i:=a) (by simp [mat0])
   rw [List.append_nil,List.append_nil] at this
   rw [this]
   congr 2
   rw [List.set_append_right _ _ (by omega),hm0,Nat.sub_self]
   simp [mat0,row0,yN]
  simp only [go_sem,a2,b2,hvc,hv1,zAd,zI,zH,zL,zO,zJ,splice,and_self,zB,zD,zC,reduceIte,reduceCtorEq,zA]
  rw [hVe]
  simp only [go_sem,a2,h2,h3,zAi,yL,and_self,hr,zB,zD,zC,reduceIte,reduceCtorEq,zA]
  rw [← hVe]
  simp only [go_sem,hc,AV.cells,AV.one,zL,zO,zJ,splice,zCm,List.length_replicate,hk1,hset,h4,zB,zD,zC,reduceIte,reduceCtorEq,zA]
  exact zAj (n - (a+1)) (by omega) ⟨a+1,V',nt+1,tk',hlt,rfl,rfl,rfl,hV',hM2,by omega⟩
 have h1:¬ (a:Int)<n:=by omega
 have ea:a=n:=by omega
 subst ea
 obtain ⟨m,hm⟩:∃ m,a=m:=⟨_,rfl⟩
 have hVs:∃ t,V=.slice (rowsO (H.length+3) a a) a t:=by
  rcases hV with ⟨h0,_⟩ | ⟨k,hk,_⟩
  ·omega
  ·exact ⟨_,hk⟩
 clear hV lR l0 l1 l2 g0 g1 g2 s2 hM
 simp only [go_sem,l94_0,h1,decide_false,a0,zAa,zB,zD,zC,reduceIte,reduceCtorEq,zA]
 have hRl:(mat0 a a).length=a:=by simp [mat0]
 refine zAu (fun q ts' S' => ∃ j M' nt' tk' X,j≤s.sights.length∧q=s.sights.length - j∧ts'=[(1,M'),(2,.ref H.length 0),(4,.ref (H.length+1) 0),(5,.ref (H.length+2) 0),(40,.slice (sgts s.sights) s.sights.length .unk),(41,.int .i64 s.sights.length),(42,.int .i64 j)]∧S'=⟨A V ++ (heapR (mat0 a a) ++ X),nt',tk'⟩∧Mx s (ds ++ (s.sights.take j).flatMap sB) M' ⟨H,nt',tk'⟩ nt'∧N≤nt') s.sights.length ⟨0,M,nt,tk,[],qG _,rfl,rfl,by simp,by simpa using hM'.mono (fun k hk _=>hk) hnt,hnt⟩ ?_
 rintro q ts' S' ⟨j,M',nt',tk',X,hj,rfl,rfl,rfl,hM2,hnt'⟩
 by_cases hlt:j<s.sights.length
 ·have hM2:=hM2.resolve_right fun hh=>by rw [hh.1] at hlt;exact absurd hlt (qU _)
  have h1:(j:Int)<s.sights.length:=by omega
  have h2:0≤(j:Int)∧(j:Int)<s.sights.length:=by omega
  have h3:j * 4+4≤(sgts s.sights).length:=by rw [zBf];omega
  have h4:IntKind.i64.wrap ((j:Int)+1)=(j+1:Nat):=wrap64 (by omega)
  have h5:=zCj s.sights j hlt
  have hn':(s.sights.take (j+1)).flatMap sB=(s.sights.take j).flatMap sB ++ sB s.sights[j]:=by
   rw [qM hlt,List.flatMap_append];simp
  have hlen:((s.sights.take j).flatMap sB).length=2 * j:=by
   have:∀ l:List Sight,(l.flatMap sB).length=2 * l.length:=fun l=>by
    induction l with
    | nil=>rfl
    | cons x l ih=>rw [qW,qC,ih];simp [sB];omega
   rw [this,List.length_take];omega
  have hX:∀ y,A V ++ (heapR (mat0 a a) ++ (X ++ [y]))=(A V ++ (heapR (mat0 a a) ++ X)) ++ [y]:=fun y=>by simp
  generalize s.sights[j]=x at *
  simp only [go_sem,l94_1,h1,decide_true,zB,zD,zC,reduceIte,reduceCtorEq,zA]
  generalize hHh:A V ++ (heapR (mat0 a a) ++ X)=Hh at *
  have c1:=zAf Hh
  have c2:=fun x B=>zAs Hh x B
  simp only [go_sem,h2,zAi,and_self,h3,h5,c1,c2,zAd,AV.cells,AV.one,zL,zO,zJ,splice,zI,zH,zB,zD,zC,reduceIte,reduceCtorEq,zA]
  refine zCa (E:=Es _ _) n91 (zDn x) (SubL.refl _) ?_
  simp only [go_sem,zAa,zB,zD,zC,reduceIte,reduceCtorEq,zA]
  refine MoreA.app (S:=⟨Hh ++ [some (.cells (sgtC x))],nt',tk'⟩) (l:=sB x) (N:=nt') (hM2.mono (fun k hk _=>hk) (zM _)) (zM _) (by simp [sB]) (by rw [qC,hlen];simp [sB];omega) fun M3 tk3 hM3 => ?_
  simp only [go_sem,h4,zB,zD,zC,reduceIte,reduceCtorEq,zA]
  exact zAj (s.sights.length - (j+1)) (by omega) ⟨j+1,M3,nt'+1,tk3,X ++ [some (.cells (sgtC x))],hlt,rfl,rfl,by rw [hX],by rw [hn',← qN];exact .inl (hM3.mono (fun k hk _=>hk) (zM _)),by omega⟩
 have h1:¬ (j:Int)<s.sights.length:=by omega
 have ej:j=s.sights.length:=by omega
 subst ej
 rw [yO] at hM2
 have hM2:Mx s (moreB s ds) M' ⟨H,nt',tk'⟩ nt':=hM2
 have hbok:=more_ok h hn hok
 have hbl:=moreB_len s ds
 generalize hbs:moreB s ds=bs at *
 simp only [go_sem,l94_1,h1,decide_false,zB,zD,zC,reduceIte,reduceCtorEq,zA]
 clear hM' hm
 have hMlen:zAa T ⟨A V ++ (heapR (mat0 a a) ++ X),nt',tk'⟩ .len [138] [M']=some (.pure (.int .i64 bs.length)):=by
  rcases hM2 with (⟨rfl,rfl⟩ | ⟨k,rfl,_,_⟩) | ⟨_,rfl⟩
  ·rfl
  ·rfl
  ·rfl
 simp only [go_sem,hMlen,zB,zD,zC,reduceIte,reduceCtorEq,zA]
 clear hMlen h1 hlt hj
 obtain ⟨tv,hVs⟩:=hVs
 have hin:∀ x∈bs,0≤x.a∧x.a<a∧0≤x.b∧x.b<a:=fun x hx=>by have q:=hbok x hx;have q1:=q.a;have q2:=q.b;omega
 have hm:∀ x∈bs,-1000000≤x.most:=fun x hx=>by have q:=(hbok x hx).m;omega
 have sqk:∀ k,Sq a ((bs.take k).foldl putB (mat0 a a)):=by
  intro k
  induction k with
  | zero=>exact sq_mat0 _
  | succ k ih =>
   by_cases hk:k<bs.length
   ·rw [zCz _ _ _ _ hk]
    have:=hin _ (qB hk)
    exact ih.put _ _ _
   ·rw [List.take_of_length_le (by omega)] at ih ⊢;exact ih
 refine zAu (fun q ts' S' => ∃ j X,j≤bs.length∧q=bs.length - j∧ts'=[(2,.ref H.length 0),(4,.ref (H.length+1) 0),(5,.ref (H.length+2) 0),(52,M'),(53,.int .i64 bs.length),(54,.int .i64 j)]∧S'=⟨A V ++ (heapR ((bs.take j).foldl putB (mat0 a a)) ++ X),nt',tk'⟩) bs.length ⟨0,X,qG _,rfl,rfl,rfl⟩ ?_
 rintro q ts' S' ⟨j,X,hj,rfl,rfl,rfl⟩
 have sq:=sqk j
 generalize hR:(bs.take j).foldl putB (mat0 a a)=W at *
 by_cases hlt:j<bs.length
 ·have h1:(j:Int)<bs.length:=by omega
  have h2:0≤(j:Int)∧(j:Int)<bs.length:=by omega
  have h3:j * 3+3≤(bnds bs).length:=by rw [bnds_len];omega
  have h4:IntKind.i64.wrap ((j:Int)+1)=(j+1:Nat):=wrap64 (by omega)
  have h5:=bnds_at bs j hlt
  have hn':(bs.take (j+1)).foldl putB (mat0 a a)=putB W bs[j]:=by rw [zCz _ _ _ _ hlt,hR]
  have hx:=hin _ (qB hlt)
  obtain ⟨tm,rfl⟩:∃ tm,M'=.slice (bnds bs) bs.length tm:=by
   rcases hM2 with (⟨_,rfl⟩ | ⟨k,e,_⟩) | ⟨_,e⟩
   ·simp at hlt
   ·exact ⟨_,e⟩
   ·exact ⟨_,e⟩
  clear hR
  generalize bs[j]=x at *
  obtain ⟨L,hL⟩:∃ L,(A V ++ (heapR W ++ X)).length=L:=⟨_,rfl⟩
  have hX:∀ y,A V ++ (heapR W ++ (X ++ [y]))=(A V ++ (heapR W ++ X)) ++ [y]:=fun y=>by simp
  have c1:∀ l,cellsAt (A V ++ (heapR W ++ (X ++ [some (.cells l)]))) L=some l:=fun l=>by rw [hX,← hL];exact zAf _ _
  have c2:∀ z B,setH (A V ++ (heapR W ++ (X ++ [z]))) L B=A V ++ (heapR W ++ (X ++ [some B])):=fun z B=>by rw [hX,← hL,zAs];simp
  obtain ⟨ai,hai⟩:∃ ai:Nat,x.a=ai:=⟨x.a.toNat,by omega⟩
  obtain ⟨bi,hbi⟩:∃ bi:Nat,x.b=bi:=⟨x.b.toNat,by omega⟩
  rw [hai,hbi] at hx
  have ha:ai<a:=by omega
  have hb:bi<a:=by omega
  have hput:∀ C,setH (A V ++ (heapR W ++ C)) (H.length+3+ai) (.cells ((ints (W.getD ai [])).set bi (.int .i64 (if x.most<ent W ai bi then x.most else ent W ai bi))))=A V ++ (heapR (putB W x) ++ C):=fun C=>by
   rw [setH_mid sq ha (lA V)]
   unfold putB Fw.addc
   simp only [hai,hbi,qO]
   congr 4
   omega
  have ca:=fun C=>zEr (C:=C) sq ha (lA V)
  have eab:=zBe sq ha hb
  have lenA:=sq.getD ha
  have x1:0≤(ai:Int)∧(ai:Int)<(a:Nat):=by omega
  have x2:0≤(bi:Int)∧(bi:Int)<(a:Nat):=by omega
  have k1:bi+1≤a:=hb
  have ra:(rowsO (H.length+3) a a)[ai]? = some (.sref (H.length+3+ai) 0 a a):=zDb ha
  simp only [go_sem,l94_2,h1,decide_true,zB,zD,zC,reduceIte,reduceCtorEq,zA]
  simp only [go_sem,h2,zAi,and_self,h3,h5,hL,c1,c2,zAd,AV.cells,AV.one,zL,zO,zJ,splice,zI,zH,zB,zD,zC,reduceIte,reduceCtorEq,zA]
  rw [hVs] at *
  simp only [go_sem,a2,c1,hai,hbi,x1,x2,ra,ca,eab,zAi,yL,and_self,k1,lenA,zCm,zAa,minsA,AV.cells,AV.one,zL,zO,zJ,splice,zAd,hput,h4,zB,zD,zC,reduceIte,reduceCtorEq,zA]
  exact zAj (bs.length - (j+1)) (by omega) ⟨j+1,X ++ [some (.cells [.int .i64 ai,.int .i64 bi,.int .i64 x.most])],hlt,rfl,rfl,by rw [hn']⟩
 have h1:¬ (j:Int)<bs.length:=by omega
 have ej:j=bs.length:=by omega
 subst ej
 rw [yO] at hR
 simp only [go_sem,l94_2,h1,decide_false,a0,zB,zD,zC,reduceIte,reduceCtorEq,zA]
 clear h1 hlt hj hbok hM2 sqk hok hRl
 have mlow:=bsM_low a 1000000 (by decide) bs hin hm
 have mhigh:=bsM_high a bs hin
 rw [← bsM_eq,hR] at mlow mhigh
 rw [hR] at hsome hnone
 have h7:(7:Int) ^ a≤7 ^ 13:=Fw.pow_le (by decide) _ (by omega)
 refine zDy a (fun k=>[(2,.ref H.length 0),(4,.ref (H.length+1) 0),(5,.ref (H.length+2) 0),(82,.int .i64 a),(83,.int .i64 k)]) (fun k=>⟨A V ++ (heapR (upto far a k W) ++ X),nt',tk'⟩) rfl rfl ?_
 intro c hc I hI
 by_cases hC:c<a
 ·have hC':(c:Int)<(a:Nat):=by omega
  have h6:IntKind.i64.wrap ((c:Int)+1)=(c+1:Nat):=wrap64 (by omega)
  have sqc:Sq a (upto far a c W):=sq.upto far a c
  simp only [go_sem,l94_3,hC',decide_true,a0,zB,zD,zC,reduceIte,reduceCtorEq,zA]
  refine zDy a (fun k=>[(2,.ref H.length 0),(4,.ref (H.length+1) 0),(5,.ref (H.length+2) 0),(82,.int .i64 a),(83,.int .i64 c),(11,.int .i64 c),(87,.int .i64 a),(88,.int .i64 k)]) (fun k=>⟨A V ++ (heapR ((List.range k).foldl (row far a c) (upto far a c W)) ++ X),nt',tk'⟩) rfl rfl ?_
  intro p hp I2 hI2
  by_cases hP:p<a
  ·have hP':(p:Int)<(a:Nat):=by omega
   have hP6:IntKind.i64.wrap ((p:Int)+1)=(p+1:Nat):=wrap64 (by omega)
   have sqp:Sq a ((List.range p).foldl (row far a c) (upto far a c W)):=Fw.fold_ind (fun _ w=>Sq a w) _ _ _ sqc fun _ _ _ hw=>hw.row _ _ _ _
   simp only [go_sem,l94_4,hP',decide_true,a0,zB,zD,zC,reduceIte,reduceCtorEq,zA]
   refine zDy a (fun k=>[(2,.ref H.length 0),(4,.ref (H.length+1) 0),(5,.ref (H.length+2) 0),(82,.int .i64 a),(83,.int .i64 c),(11,.int .i64 c),(87,.int .i64 a),(88,.int .i64 p),(12,.int .i64 p),(92,.int .i64 a),(93,.int .i64 k)]) (fun k=>⟨A V ++ (heapR ((List.range k).foldl (upd far c p) ((List.range p).foldl (row far a c) (upto far a c W))) ++ X),nt',tk'⟩) rfl rfl ?_
   intro b hb3 I3 hI3
   by_cases hB:b<a
   ·have hB':(b:Int)<(a:Nat):=by omega
    have hB6:IntKind.i64.wrap ((b:Int)+1)=(b+1:Nat):=wrap64 (by omega)
    have sqb:Sq a ((List.range b).foldl (upd far c p) ((List.range p).foldl (row far a c) (upto far a c W))):=Fw.fold_ind (fun _ w=>Sq a w) _ _ _ sqp fun _ _ _ hw=>hw.upd _ _ _ _
    have hnext:=hI3 hB
    rw [Fw.fold_succ] at hnext
    have low:=Fw.low_in (n:=a) (X:=1000000) (W:=W) (by decide) sq far mlow (c:=c) (a:=p) (b:=b) hC hP (by omega)
    have high:∀ i j,i<a→j<a→ent ((List.range b).foldl (upd far c p) ((List.range p).foldl (row far a c) (upto far a c W))) i j≤far:=fun i j hi hj =>
     yQ (Fw.high_in (n:=a) (W:=W) sq far (c:=c) (a:=p) (b:=b) (by omega) (by omega) i j (.inr hP)) (mhigh i j hi hj)
    generalize (List.range b).foldl (upd far c p) ((List.range p).foldl (row far a c) (upto far a c W))=U at *
    have xa:0≤(p:Int)∧(p:Int)<(a:Nat):=by omega
    have xb:0≤(b:Int)∧(b:Int)<(a:Nat):=by omega
    have xc:0≤(c:Int)∧(c:Int)<(a:Nat):=by omega
    have ra:(rowsO (H.length+3) a a)[p]? = some (.sref (H.length+3+p) 0 a a):=zDb hP
    have rc:(rowsO (H.length+3) a a)[c]? = some (.sref (H.length+3+c) 0 a a):=zDb hC
    have ca:=zEr (C:=X) sqb hP (lA V)
    have cc:=zEr (C:=X) sqb hC (lA V)
    have eac:=zBe sqb hP hC
    have ecb:=zBe sqb hC hB
    have eab:=zBe sqb hP hB
    have k1:b+1≤a:=by omega
    have lenA:=sqb.getD hP
    have sset:=setH_mid (C:=X) sqb hP (lA V) b
    have w1:=low p c hP hC
    have w2:=low c b hC hB
    have w3:=high p c hP hC
    have w4:=high c b hC hB
    have ef:far=1099511627776:=rfl
    have e7:(7:Int) ^ 13=96889010407:=by decide
    have hwrap:IntKind.i64.wrap (ent U p c+ent U c b)=ent U p c+ent U c b:=wrap64 (by omega)
    have hwrap0:IntKind.i64.wrap (0+ent U p c)=ent U p c:=by rw [wrap64 (by omega)];omega
    have hu:=upd_sum (c:=c) sqb (high p b hP hB)
    rw [← sumF2 hwrap hwrap0] at hu
    rw [← hu] at hnext
    subst hVs
    simp only [go_sem,l94_5,hB',decide_true,zB,zD,zC,reduceIte,reduceCtorEq,zA]
    simp only [go_sem,a2,xa,xb,xc,ra,rc,ca,cc,eac,ecb,eab,zAi,yL,and_self,zB,zD,zC,reduceIte,reduceCtorEq,zA]
    refine zBo (E:=Es _ _) n151 (sum_pc' [ent U p c,ent U c b] (by show 2<9223372036854775807;decide)) (SubL.cons (Sub.unk _ 2 .exact) (SubL.refl [])) ?_
    simp only [go_sem,a2,xa,xb,xc,ra,rc,ca,cc,eac,ecb,eab,zAi,yL,and_self,zAa,minsA,AV.cells,AV.one,zL,zO,zJ,splice,zCm,lenA,k1,sset,hB6,zAd,zB,zD,zC,reduceIte,reduceCtorEq,zA]
    exact hnext
   ·have hB':¬ (b:Int)<(a:Nat):=by omega
    simp only [go_sem,l94_5,hB',decide_false,hP6,zB,zD,zC,reduceIte,reduceCtorEq,zA]
    have:=hI2 hP
    rw [Fw.fold_succ] at this
    rw [show b=a by omega]
    exact this
  ·have hP':¬ (p:Int)<(a:Nat):=by omega
   simp only [go_sem,l94_4,hP',decide_false,h6,zB,zD,zC,reduceIte,reduceCtorEq,zA]
   have:=hI hC
   rw [show upto far a (c+1) W=stage far a (upto far a c W) c from Fw.fold_succ _ _ _] at this
   rw [show p=a by omega]
   exact this
 have hC':¬ (c:Int)<(a:Nat):=by omega
 have hcm:c=a:=by omega
 subst hcm
 simp only [go_sem,l94_3,hC',decide_false,a0,zB,zD,zC,reduceIte,reduceCtorEq,zA]
 clear hI hc hC hC' I mlow mhigh h7
 have sqV:Sq c (upto far c c W):=sq.upto far c c
 unfold Fw.closed at hsome hnone
 generalize upto far c c W=U at *
 refine zBi c (fun k => ∀ i,i<k→0≤ent U i i) (fun k=>[(4,.ref (H.length+1) 0),(5,.ref (H.length+2) 0),(134,.int .i64 c),(135,.int .i64 k)]) (fun k=>⟨A V ++ (heapR U ++ X),nt',tk'⟩) (fun i hi=>absurd hi (qU _)) rfl rfl ?_
 intro i hi hP I hI
 by_cases hC:i<c
 ·have hC':(i:Int)<(c:Nat):=by omega
  have h6:IntKind.i64.wrap ((i:Int)+1)=(i+1:Nat):=wrap64 (by omega)
  have xa:0≤(i:Int)∧(i:Int)<(c:Nat):=by omega
  have ra:(rowsO (H.length+3) c c)[i]? = some (.sref (H.length+3+i) 0 c c):=zDb hC
  have ca:=zEr (C:=X) sqV hC (lA V)
  have eaa:=zBe sqV hC hC
  subst hVs
  simp only [go_sem,l94_6,hC',decide_true,a2,xa,ra,ca,eaa,zAi,yL,and_self,zB,zD,zC,reduceIte,reduceCtorEq,zA]
  by_cases g:ent U i i<0
  ·simp only [go_sem,g,decide_true,zB,zD,zC,reduceIte,reduceCtorEq,zA]
   rw [hA]
   have hno:((List.range c).all fun i=>decide (0≤ent U i i))=false:=by
    rw [List.all_eq_false]
    exact ⟨i,List.mem_range.2 hC,by rw [decide_eq_true_iff];omega⟩
   rw [hno] at hnone
   have:=hnone rfl i
   simp only [go_sem,zB,zD,zC,reduceIte,reduceCtorEq,zA]
   exact this _ _ _ hnt'
  ·simp only [go_sem,g,decide_false,h6,zB,zD,zC,reduceIte,reduceCtorEq,zA]
   refine hI hC fun j hj => ?_
   by_cases e:j=i
   ·subst e;omega
   ·exact hP j (by omega)
 ·have hC':¬ (i:Int)<(c:Nat):=by omega
  have hall:((List.range c).all fun i=>decide (0≤ent U i i))=true:=by
   rw [yG]
   intro j hj
   rw [decide_eq_true_iff]
   exact hP j (by have:=List.mem_range.1 hj;omega)
  rw [hall,if_pos rfl] at hsome
  subst hVs
  obtain ⟨A',hl3,hr,hw⟩:=b1 (.slice (rowsO (H.length+3) c c) c tv) (.cells [.int .i64 c,.slice (sgts s.sights) s.sights.length .unk,.slice (rowsO (H.length+3) c c) c tv]) (heapR U ++ X)
  simp only at hr
  simp only [go_sem,l94_6,hC',decide_false,a1,a2,zAd,AV.cells,AV.one,zL,zO,zJ,splice,zI,zH,hw,Tryz.f94,hr,zB,zD,zC,reduceIte,reduceCtorEq,zA]
  have:=hsome U rfl A' X tv nt' tk' hl3 hnt'
  simp only [kvC,hst] at this
  exact this
end Go.Av.Fx
end
section
namespace Go.Av.Fx
open Go Go.Av Go.Av.Tb Go.Proofs
open Go.Fw (Sq ent Bd Mat)
noncomputable def Ek (n:Nat) (S:St):Env:={ E n with base:=S.heap.length,bt:=S.nt,K:=false }
theorem Ek_ok (n:Nat) (S:St):(Ek n S).Ok:=⟨(E_ok n).T,(E_ok n).M,(E_ok n).Cle,(E_ok n).Y⟩
@[go_sem] theorem Ek_T (n:Nat) (S:St):(Ek n S).T=T:=rfl
@[go_sem] theorem Ek_P (n:Nat) (S:St):(Ek n S).P=Tryz.prog:=rfl
@[go_sem] theorem from_T (E:Env) (S:St):(E.from S).T=E.T:=rfl
@[go_sem] theorem from_P (E:Env) (S:St):(E.from S).P=E.P:=rfl
@[go_sem] theorem eqn20:binA T .eql 20 .nilIface .nilIface=some (.bool true):=rfl
@[go_sem] theorem eqi20 (t:TypeId) (v:AV):binA T .eql 20 (.iface t v) .nilIface=some (.bool false):=rfl
@[go_sem] theorem ta174 (v:AV):zAx T (.iface 191 v) 191 true=some (.tuple [v,.bool true]):=rfl
@[go_sem] theorem ta174n (v:AV):zAx T (.iface 193 v) 191 true=some (.tuple [.agg [.int .i64 0],.bool false]):=rfl
@[go_sem] theorem ta176 (v:AV):zAx T (.iface 193 v) 193 true=some (.tuple [v,.bool true]):=rfl
def zDc:MC:=(.block 0 (.seq (.region [0,5,7] r149_3) (.cond (.tmp 7) (.region [] r149_4) (.seq (.region [0,5,9,10] r149_5) (.cond (.tmp 9) (.seq (.region [0] r149_6) (.region [] r149_7)) (.seq (.region [0,5,12,13] r149_8) (.cond (.tmp 12) (.seq (.region [0] r149_9) (.region [] r149_10)) (.seq (.region [4] r149_1) (.region [] r149_2)))))))))
def caught (b:Nat) (k:Int) (x:AV) (S:St):St:=⟨setH (S.heap ++ [some (.cells x.cells)]) b (.cells [.int .i64 k]),S.nt,S.toks⟩
theorem try1_none (b:Nat) (S:St):DC Tryz.prog 149 [.ref b 0] none S fun S'=>S'=S:=by
 refine DC.run (E:=Ek 14 S) (Ek_ok 14 S) mix (fn:=Tryz.f149) (mc:=zDc) (d:=5) (ks:=lk [(0,[0,5]),(1,[4]),(2,[]),(3,[0,5,7]),(4,[]),(5,[0,5,9,10]),(6,[0]),(7,[]),(8,[0,5,12,13]),(9,[0]),(10,[])]) (dm:=lk1 []) Tryz.func149 rfl rfl rfl rfl (by kernel_rfl) rfl rfl (zE rfl) (show 5<14 by decide) rfl rfl rfl (fun _=>trivial) rfl ?_
 simp only [go_sem,zDc,Option.getD_none,zB,zD,zC,reduceIte,reduceCtorEq,zA]
theorem try1_174 (b:Nat) (S:St) (p:Int) (hb:cellsAt S.heap b=some [.int .i64 0]):DC Tryz.prog 149 [.ref b 0] (some (.iface 191 (.agg [.int .i64 p]))) S fun S'=>S'=caught b 7 (.agg [.int .i64 p]) S:=by
 refine DC.run (E:=Ek 14 S) (Ek_ok 14 S) mix (fn:=Tryz.f149) (mc:=zDc) (d:=5) (ks:=lk [(0,[0,5]),(1,[4]),(2,[]),(3,[0,5,7]),(4,[]),(5,[0,5,9,10]),(6,[0]),(7,[]),(8,[0,5,12,13]),(9,[0]),(10,[])]) (dm:=lk1 []) Tryz.func149 rfl rfl rfl rfl (by kernel_rfl) rfl rfl (zE rfl) (show 5<14 by decide) rfl rfl rfl (fun _=>trivial) rfl ?_
 have h1:∀ g,cellsAt (S.heap ++ g) b=some [.int .i64 0]:=zAn hb
 have h2:=zAf S.heap
 have h3:=zAs S.heap
 simp only [go_sem,zDc,qD,zAc,zAd,h1,h2,h3,zB,zD,zC,reduceIte,reduceCtorEq,zA]
 rfl
theorem try1_176 (b:Nat) (S:St) (p:ByteArray) (hb:cellsAt S.heap b=some [.int .i64 0]):DC Tryz.prog 149 [.ref b 0] (some (.iface 193 (.agg [.str p]))) S fun S'=>S'=caught b 4 (.agg [.str p]) S:=by
 refine DC.run (E:=Ek 14 S) (Ek_ok 14 S) mix (fn:=Tryz.f149) (mc:=zDc) (d:=5) (ks:=lk [(0,[0,5]),(1,[4]),(2,[]),(3,[0,5,7]),(4,[]),(5,[0,5,9,10]),(6,[0]),(7,[]),(8,[0,5,12,13]),(9,[0]),(10,[])]) (dm:=lk1 []) Tryz.func149 rfl rfl rfl rfl (by kernel_rfl) rfl rfl (zE rfl) (show 5<14 by decide) rfl rfl rfl (fun _=>trivial) rfl ?_
 have h1:∀ g,cellsAt (S.heap ++ g) b=some [.int .i64 0]:=zAn hb
 have h2:=zAf S.heap
 have h3:=zAs S.heap
 simp only [go_sem,zDc,qD,zAc,zAd,h1,h2,h3,zB,zD,zC,reduceIte,reduceCtorEq,zA]
 rfl
theorem DC.mono {P:Program} {g:FuncId} {caps:List AV} {pan:Option AV} {S:St} {R R':St→Prop} (h:DC P g caps pan S R) (hr:∀ S',R S'→R' S'):DC P g caps pan S R':=
 fun c w vs u h1 h2 h3=>(h c w vs u h1 h2 h3).mono fun e u' w' ⟨a1,a2,S',c',a3,a4,a5⟩=>⟨a1,a2,S',c',a3,hr _ a4,a5⟩
@[go_sem] theorem endQ_ret (E:Env) (rs:List ResultVar) (g:FuncId) (caps:List AV) (R:AEnd→St→Prop) (ts:TS) (S:St):endQ E rs g caps R .ret ts S=DC E.P g caps none S fun S2 => ∃ vs,resA E.T S2 ts rs=some vs∧R (.ret (tupA vs)) S2:=rfl
@[go_sem] theorem endQ_panic (E:Env) (rs:List ResultVar) (g:FuncId) (caps:List AV) (R:AEnd→St→Prop) (v:AV) (ts:TS) (S:St):endQ E rs g caps R (.panic v) ts S=DC E.P g caps (some v) S fun S2 => ∃ vs,resA E.T S2 ts rs=some vs∧R (.ret (tupA vs)) S2:=rfl
theorem setH_same:∀ {h:List (Option Blk)} {b:Nat} {l:List AV},cellsAt h b=some l→setH h b (.cells l)=h
 | [],b,l,h=>by simp [cellsAt] at h
 | x :: h,0,l,e=>by
  simp only [cellsAt,List.getElem?_cons_zero] at e
  show some (.cells l) :: h=_
  split at e
  ·rename_i q hq
   simp only [yT] at hq e;subst e;rw [hq]
  ·cases e
 | x :: h,b+1,l,e=>by
  show x :: setH h b _=_
  rw [setH_same (h:=h) (b:=b) (l:=l) (by simpa [cellsAt] using e)]
theorem zEe {h:List (Option Blk)} {b:Nat} {l l':List AV} (hb:cellsAt h b=some l) (g:List (Option Blk)):cellsAt (setH (h ++ g) b (.cells l')) b=some l':=by
 have hlt:b<h.length:=by
  unfold cellsAt at hb
  rcases zU b h.length with h' | h'
  ·exact h'
  ·rw [zN h'] at hb;cases hb
 have:∀ (h:List (Option Blk)) (b:Nat),b<h.length→cellsAt (setH h b (.cells l')) b=some l':=by
  intro h
  induction h with
  | nil=>intro b hb;simp at hb
  | cons x h ih =>
   intro b hb
   cases b with
   | zero=>rfl
   | succ b =>
    have:=ih b (by simpa using hb)
    simpa [cellsAt,setH] using this
 exact this _ _ (by simp;omega)
theorem try_ac {S:St} {g:FuncId} {caps:List AV} {R0 R:AEnd→St→Prop} (ng:Callable Tryz.prog g) (hdo:AC Tryz.prog g caps ⟨S.heap ++ [some (.cells [.int .i64 0])],S.nt,S.toks⟩ R0)
  (hret:∀ v S',R0 (.ret v) S'→cellsAt S'.heap S.heap.length=some [.int .i64 0]∧R (.ret (.int .i64 0)) S')
  (hpan:∀ v S',R0 (.panic v) S'→cellsAt S'.heap S.heap.length=some [.int .i64 0]∧((∃ p:Int,v=.iface 191 (.agg [.int .i64 p])∧R (.ret (.int .i64 7)) (caught S.heap.length 7 (.agg [.int .i64 p]) S'))∨(∃ s:ByteArray,v=.iface 193 (.agg [.str s])∧R (.ret (.int .i64 4)) (caught S.heap.length 4 (.agg [.str s]) S')))) :
  AC Tryz.prog 92 [.func (.func g) [] caps] S R:=by
 refine AC.deferring (E:=Ek 6 S) (Ek_ok 6 S) mix (fn:=Tryz.f92) (t:=3) (ma:=.region [0,2] r92_0) (mx:=.seq (.region [2] r92_2) (.seq (.region [2] r92_3) .ret)) (ks:=lk [(0,[0,2]),(1,[0,2]),(2,[2]),(3,[2])]) (dm:=lk1 []) Tryz.func92 rfl rfl rfl rfl rfl rfl (by kernel_rfl) (by kernel_rfl) rfl (show 3<6 by decide) rfl rfl (zE rfl) rfl (fun _=>trivial) rfl ?_
 simp only [go_sem,zB,zD,zC,reduceIte,reduceCtorEq,zA]
 refine ⟨149,[.ref S.heap.length 0],rfl,n149, ?_⟩
 refine zCb (E:=(Ek 6 S).from _) ng hdo ?_ ?_
 ·intro v S' hR
  obtain ⟨h1,h2⟩:=hret v S' hR
  have h3:=setH_same h1
  simp only [go_sem,h1,zAd,h3,Tryz.f92,zB,zD,zC,reduceIte,reduceCtorEq,zA]
  refine DC.mono (try1_none _ _) fun S2 e => ?_
  subst e
  exact ⟨[.int .i64 0],by simp only [go_sem,h1,zB,zD,zC,reduceIte,reduceCtorEq,zA],h2⟩
 ·intro v S' hR
  obtain ⟨h1,h2⟩:=hpan v S' hR
  rcases h2 with ⟨p,rfl,h2⟩ | ⟨p,rfl,h2⟩
  ·refine DC.mono (try1_174 _ _ p h1) fun S2 e => ?_
   subst e
   have hcs:cellsAt (caught S.heap.length 7 (.agg [.int .i64 p]) S').heap S.heap.length=some [.int .i64 7]:=zEe h1 _
   exact ⟨[.int .i64 7],by simp only [go_sem,Tryz.f92,hcs,zB,zD,zC,reduceIte,reduceCtorEq,zA],h2⟩
  ·refine DC.mono (try1_176 _ _ p h1) fun S2 e => ?_
   subst e
   have hcs:cellsAt (caught S.heap.length 4 (.agg [.str p]) S').heap S.heap.length=some [.int .i64 4]:=zEe h1 _
   exact ⟨[.int .i64 4],by simp only [go_sem,Tryz.f92,hcs,zB,zD,zC,reduceIte,reduceCtorEq,zA],h2⟩
end Go.Av.Fx
end
section
set_option maxHeartbeats 1000000
namespace Go.Av.Fx
open Go Go.Av Go.Av.Tb Go.Proofs
open Go.Lv (Sight Survey Sw Sv SightOk)
open Go.Fw (Sq ent Bd Mat)
def kn (s:Survey) (ds:List Bound):Option Mat:=Lv.clo (Lv.num s) (ds.map bd ++ Lv.surveyB s)
theorem more_bd {s:Survey} (h:Sw s) (ds:List Bound):(moreB s ds).map bd=ds.map bd ++ Lv.surveyB s:=by
 rw [moreB,qS,List.map_flatMap]
 congr 1
 have:∀ l:List Sight,(∀ x∈l,SightOk s.stations x)→l.flatMap (fun a=>(sB a).map bd)=l.flatMap Lv.sightB:=fun l hl=>by
  induction l with
  | nil=>rfl
  | cons x l ih=>rw [qW,qW,sB_eq (hl x zP),ih fun y hy=>hl y (zR _ hy)]
 exact this _ h.sights
theorem kn_eq {s:Survey} (h:Sw s) (ds:List Bound):Fw.closed far (Lv.num s) ((moreB s ds).foldl putB (mat0 (Lv.num s) (Lv.num s)))=kn s ds:=by
 rw [bsM_eq,bsM,more_bd h];rfl
theorem known_ac (s:Survey) (h:Sw s) (hl:s.sights.length≤100) (ds:List Bound) (hd:ds.length≤1000) (hok:∀ x∈ds,BOk (Lv.num s) x) (M:AV) (H:List (Option Blk)) (N:Nat) (toks:List Nat) (hM:MoreA ds M ⟨H,N,toks⟩ N) :
  AC Tryz.prog 94 [surA s,M] ⟨H,N,toks⟩ fun e S' =>
   (kn s ds=none ∧ ∃ (a:Int) (A:List (Option Blk)) (nt:Nat) (tk:List Nat),e=.panic (.iface 191 (.agg [.int .i64 a]))∧S'=⟨H ++ A,nt,tk⟩∧N≤nt) ∨
   (∃ V,kn s ds=some V ∧ ∃ (A C:List (Option Blk)) (t:Tail) (nt:Nat) (tk:List Nat),e=.ret (.agg (kvC s (.slice (rowsO (H.length+3) (Lv.num s) (Lv.num s)) (Lv.num s) t)))∧S'=⟨H ++ (A ++ (heapR V ++ C)),nt,tk⟩∧A.length=3∧N≤nt):=by
 refine known_run s h hl ds hd hok M H N toks (.inl hM) _ (fun h0 a A nt tk hnt=>.inl ⟨by rw [← kn_eq h];exact h0,a,A,nt,tk,rfl,rfl,hnt⟩) fun V hV A C t nt tk h3 hnt=>.inr ⟨V,by rw [← kn_eq h];exact hV,A,C,t,nt,tk,rfl,rfl,h3,hnt⟩
theorem zBk {s:Survey} {ds:List Bound} {V:Mat} (h:kn s ds=some V):Sq (Lv.num s) V:=by
 unfold kn Lv.clo Fw.closed at h
 split at h
 ·simp only [yT] at h
  subst h
  refine Sq.upto ?_ _ _ _
  have:∀ (cs:List Bd) (W:Mat),Sq (Lv.num s) W→Sq (Lv.num s) (cs.foldl Fw.addc W):=by
   intro cs
   induction cs with
   | nil=>exact fun W h=>h
   | cons c cs ih=>exact fun W h=>ih _ (h.put _ _ _)
  exact this _ _ (sq_mat0 _)
 ·cases h
def possK (s:Survey) (ds:List Bound):Bool:=(kn s ds).isSome
theorem possible1_ac (s:Survey) (h:Sw s) (hl:s.sights.length≤100) (ds:List Bound) (hd:ds.length≤1000) (hok:∀ x∈ds,BOk (Lv.num s) x) (M:AV) (H:List (Option Blk)) (i j:Nat) (hi:cellsAt H i=some (surC s)) (hj:cellsAt H j=some [M]) (N:Nat) (toks:List Nat) (hM:MoreA ds M ⟨H,N,toks⟩ N) :
  AC Tryz.prog 156 [.ref i 0,.ref j 0] ⟨H,N,toks⟩ fun e S' => ∃ (A:List (Option Blk)) (nt:Nat) (tk:List Nat),S'=⟨H ++ A,nt,tk⟩∧N≤nt∧((possK s ds=false ∧ ∃ a:Int,e=.panic (.iface 191 (.agg [.int .i64 a])))∨(possK s ds=true∧e=.ret (.tuple []))):=by
 refine AC.run (Es_ok _ _) mix Tryz.func156 m156 rfl rfl rfl (zE rfl) ?_
 simp only [go_sem,hi,hj,zB,zD,zC,reduceIte,reduceCtorEq,zA]
 refine zCb (E:=Es _ _) n94 (known_ac s h hl ds hd hok M H N toks hM) (fun v S' hR => ?_) (fun v S' hR => ?_)
 ·rcases hR with ⟨_,_,_,_,_,e,_⟩ | ⟨V,hV,A,C,t,nt,tk,e,rfl,h3,hnt⟩
  ·cases e
  ·cases e
   simp only [go_sem,Tryz.f156,zB,zD,zC,reduceIte,reduceCtorEq,zA]
   exact ⟨_,_,_,rfl,hnt,.inr ⟨by rw [possK,hV];rfl,rfl⟩⟩
 ·rcases hR with ⟨h0,a,A,nt,tk,e,rfl,hnt⟩ | ⟨V,hV,A,C,t,nt,tk,e,rfl,h3,hnt⟩
  ·cases e
   exact ⟨_,_,_,rfl,hnt,.inl ⟨by rw [possK,h0];rfl,a,rfl⟩⟩
  ·cases e
theorem possible_ac (s:Survey) (h:Sw s) (hl:s.sights.length≤100) (ds:List Bound) (hd:ds.length≤1000) (hok:∀ x∈ds,BOk (Lv.num s) x) (M:AV) (hM1:M.cells=[M]∧M.one=true) (H:List (Option Blk)) (N:Nat) (toks:List Nat) (hM:MoreA ds M ⟨H,N,toks⟩ N) :
  AC Tryz.prog 107 [surA s,M] ⟨H,N,toks⟩ fun e S'=>e=.ret (.bool (possK s ds)) ∧ ∃ (A:List (Option Blk)) (nt:Nat) (tk:List Nat),S'=⟨H ++ A,nt,tk⟩∧N≤nt:=by
 refine AC.run (Es_ok _ _) mix Tryz.func107 m107 rfl rfl rfl (zE rfl) ?_
 obtain ⟨hM1,hM2⟩:=hM1
 have l1:∀ x,(H ++ [x]).length=H.length+1:=fun x=>by simp
 simp only [go_sem,boxA,hM1,hM2,l1,zB,zD,zC,reduceIte,reduceCtorEq,zA]
 obtain ⟨H2,hH2⟩:∃ H2,H2=H ++ [some (.cells (surC s)),some (.cells [M])]:=⟨_,rfl⟩
 have hl2:H2.length=H.length+2:=by rw [hH2];simp
 have i0:∀ X,cellsAt (H2 ++ X) H.length=some (surC s):=fun X=>by
  rw [hH2];unfold cellsAt;rw [qN,zY (zM _),Nat.sub_self];rfl
 have i1:∀ X,cellsAt (H2 ++ X) (H.length+1)=some [M]:=fun X=>by
  rw [hH2];unfold cellsAt;rw [qN,zY (by omega),Nat.add_sub_cancel_left];rfl
 rw [← hH2]
 refine zCb (E:=Es _ _) (R:=fun e S' => ∃ (A:List (Option Blk)) (nt:Nat) (tk:List Nat),S'=⟨H2 ++ A,nt,tk⟩∧N≤nt∧e=.ret (.int .i64 (if possK s ds=true then 0 else 7))) n92 (try_ac (S:=⟨H2,N,toks⟩) n156 (possible1_ac s h hl ds hd hok M (H2 ++ [some (.cells [.int .i64 0])]) H.length (H.length+1) (i0 _) (i1 _) N toks (hM.mono (fun _ hk _=>hk) (zM _))) ?_ ?_) ?_ ?_
 ·rintro v S' ⟨A,nt,tk,rfl,hnt,⟨_,_,e⟩ | ⟨hp,e⟩⟩
  ·cases e
  ·refine ⟨zAn (zAf _ _) _,_ :: A,nt,tk,by rw [qN];rfl,hnt,by rw [hp];rfl⟩
 ·rintro v S' ⟨A,nt,tk,rfl,hnt,⟨hp,a,e⟩ | ⟨hp,e⟩⟩
  ·cases e
   refine ⟨zAn (zAf _ _) _,.inl ⟨a,rfl,some (.cells [.int .i64 7]) :: (A ++ [some (.cells [.int .i64 a])]),nt,tk, ?_,hnt,by rw [hp];rfl⟩⟩
   unfold caught
   simp only [qN]
   rw [show H2.length=H2.length+0 from rfl,zDf];rfl
  ·cases e
 ·rintro v S' ⟨A,nt,tk,rfl,hnt,e⟩
  cases e
  cases hp:possK s ds
  ·simp only [go_sem,Tryz.f107,zB,zD,zC,reduceIte,reduceCtorEq,zA]
   first | exact ⟨rfl,_,_,_,by rw [hH2,qN],hnt⟩ | exact ⟨_,_,_,by rw [hH2,qN],hnt⟩
  ·simp only [go_sem,Tryz.f107,zB,zD,zC,reduceIte,reduceCtorEq,zA]
   first | exact ⟨rfl,_,_,_,by rw [hH2,qN],hnt⟩ | exact ⟨_,_,_,by rw [hH2,qN],hnt⟩
 ·rintro v S' ⟨A,nt,tk,rfl,hnt,e⟩
  cases e
theorem zEf (s:Survey) (h:Sw s) (hl:s.sights.length≤100):PC Tryz.prog 107 [surA s,.nilS] (.pure (.bool (Lv.possS s))):=by
 refine PC.of_empty ?_ (by simp [bndL,AV.bnd]) rfl
 have:=possible_ac s h hl [] (by simp) (fun x hx=>by cases hx) .nilS ⟨rfl,rfl⟩ [] 0 [] (.inl ⟨rfl,rfl⟩)
 exact AC.mono this fun e S' h=>by rw [h.1];rfl
end Go.Av.Fx
end
