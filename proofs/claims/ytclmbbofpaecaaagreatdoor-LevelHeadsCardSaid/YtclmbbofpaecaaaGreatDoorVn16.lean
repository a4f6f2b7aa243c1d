/- Part 16 of the proof. -/
import Derived.Test.YtclmbbofpaecaaaGreatDoorVn15
set_option linter.all false
set_option linter.unusedVariables false
set_option linter.unusedSimpArgs false
set_option linter.unusedSectionVars false
open Bool renaming and_eq_true → zT, not_eq_true' → yE
open Int renaming toNat_natCast → qO, mul_le_mul_of_nonneg_right → qQ, mul_assoc → qV, le_refl → qZ, mul_nonneg → yI, le_trans → yQ
open List renaming getElem?_eq_getElem → zF, getD_eq_getElem?_getD → zG, mem_cons_self → zP, mem_cons_of_mem → zR, length_cons → zW, getElem?_append_right → zY, length_append → qC, getElem?_append_left → qJ, take_succ_eq_append_getElem → qM, map_append → qS, not_mem_nil → yA, getElem?_set → yC, getElem?_replicate → yD, all_eq_true → yG, mem_cons → yM, take_length → yO, mem_singleton → yP
open Nat renaming le_refl → zM, zero_le → qG, not_lt_zero → qU
section
namespace Go.Lv
open Go.Fw Go.Wk
def rowOne (b r:List Int) (u v:Nat) (m:Int):List Int:=if b.getD u 0 > -far then r.set v (max (r.getD v 0) (b.getD u 0+m)) else r
def rowStep (b:List Int) (r:List Int) (x:Sight):List Int:=rowOne b (rowOne b r x.frm.toNat x.to.toNat x.rise) x.to.toNat x.frm.toNat (-x.rise)
def walkRow (s:Survey) (b:List Int):List Int:=s.sights.foldl (rowStep b) (List.replicate (num s) (-far))
structure Wl (s:Survey) (a:Nat) (k:Nat) (v:Nat) (l:List Stp):Prop where
 ok:StepsIn s l
 len:l.length=k
 pth:Pth (stepR s) a l v
structure RowP (s:Survey) (n a k:Nat) (E:List Stp→Prop) (r:List Int):Prop where
 len:r.length=n
 low:∀ v,v<n → -far≤r.getD v 0
 met:∀ v,v<n→r.getD v 0 > -far → ∃ l,Wl s a k v l∧riseL s l=r.getD v 0
 most:∀ v l,v<n→Wl s a k v l→E l→r.getD v 0 > -far∧riseL s l≤r.getD v 0
theorem rise_app (s:Survey) (l m:List Stp):riseL s (l ++ m)=riseL s l+riseL s m:=by
 unfold riseL;rw [tot_app];omega
theorem getD_set {r:List Int} {v w:Nat} {x:Int} (hv:v<r.length):(r.set v x).getD w 0=if w=v then x else r.getD w 0:=by
 rw [zG,yC]
 by_cases e:v=w
 ·subst e;rw [if_pos rfl,if_pos rfl,if_pos hv];rfl
 ·rw [if_neg e,if_neg fun h=>e h.symm,← zG]
theorem rise_bd {s:Survey} (h:Sw s):∀ {l:List Stp},StepsIn s l → -1000 * (l.length:Int)≤riseL s l∧riseL s l≤1000 * l.length
 | [],_=>by simp [riseL,tot]
 | x :: l,hl=>by
  have h1:=rise_bd h (l:=l) fun y hy=>hl y (zR _ hy)
  have h2:=(h.sights _ (sight_mem (hl x zP))).rise
  have e:riseL s (x :: l) = -(stepR s x).m+riseL s l:=by
   show -((stepR s x).m+tot (stepR s) l)=_
   unfold riseL;omega
  have h3:-1000 ≤ -(stepR s x).m ∧ -(stepR s x).m≤1000:=by
   unfold stepR stepG
   split
   ·show -1000 ≤ -(sightAt s x.sight).rise ∧ -(sightAt s x.sight).rise≤1000;omega
   ·show -1000 ≤ - -(sightAt s x.sight).rise ∧ - -(sightAt s x.sight).rise≤1000;omega
  rw [e,zW]
  omega
theorem row_one {s:Survey} (h:Sw s) {n a k:Nat} (hk:k≤100) {E:List Stp→Prop} {b r:List Int} (hb:RowP s n a k (fun _=>True) b) (hr:RowP s n a (k+1) E r) {x:Stp} (hx:0≤x.sight∧x.sight<s.sights.length)
  (hu:(stepR s x).a<n) (hv:(stepR s x).b<n):RowP s n a (k+1) (fun l=>E l ∨ ∃ m,l=m ++ [x]) (rowOne b r (stepR s x).a (stepR s x).b (-(stepR s x).m)):=by
 have hfar:far=1099511627776:=rfl
 unfold rowOne
 by_cases g:b.getD (stepR s x).a 0 > -far
 ·rw [if_pos g]
  obtain ⟨l0,w0,e0⟩:=hb.met _ hu g
  have bd0:=rise_bd h w0.ok
  have len0:=w0.len
  have hset:=fun w=>getD_set (r:=r) (v:=(stepR s x).b) (w:=w) (x:=max (r.getD (stepR s x).b 0) (b.getD (stepR s x).a 0 + -(stepR s x).m)) (by rw [hr.len];exact hv)
  have wl:Wl s a (k+1) (stepR s x).b (l0 ++ [x]):=⟨fun y hy=>by
   rcases List.mem_append.1 hy with hy | hy
   ·exact w0.ok y hy
   ·rw [yP] at hy;subst hy;exact hx,by simp [w0.len],zBl.2 ⟨_,w0.pth,rfl,rfl⟩⟩
  have ew:riseL s (l0 ++ [x])=b.getD (stepR s x).a 0 + -(stepR s x).m:=by
   rw [rise_app,e0]
   show _ + -((stepR s x).m+0)=_
   omega
  have bd1:=rise_bd h wl.ok
  have len1:=wl.len
  refine ⟨by rw [List.length_set];exact hr.len,fun v hv' => ?_,fun v hv' hgt => ?_,fun v l hv' hw hE => ?_⟩
  ·rw [hset];split
   ·have:=hr.low _ hv;omega
   ·exact hr.low v hv'
  ·rw [hset] at hgt ⊢
   by_cases e:v=(stepR s x).b
   ·rw [if_pos e] at hgt ⊢
    subst e
    rcases Int.le_total (r.getD (stepR s x).b 0) (b.getD (stepR s x).a 0 + -(stepR s x).m) with q | q
    ·rw [Int.max_eq_right q];exact ⟨_,wl,ew⟩
    ·rw [Int.max_eq_left q] at hgt ⊢;exact hr.met _ hv hgt
   ·rw [if_neg e] at hgt ⊢;exact hr.met v hv' hgt
  ·rw [hset]
   rcases hE with hE | ⟨m,rfl⟩
   ·have:=hr.most v l hv' hw hE
    by_cases e:v=(stepR s x).b
    ·rw [if_pos e];subst e;omega
    ·rw [if_neg e];exact this
   ·obtain ⟨w,p1,p2⟩:=zBl.1 hw.pth
    have ev:(stepR s x).b=v:=p2.2
    have eu:(stepR s x).a=w:=p2.1
    subst eu;subst ev
    have hl:=hw.len
    simp at hl
    have:=hb.most (stepR s x).a m hu ⟨fun y hy=>hw.ok y (List.mem_append_left _ hy),hl,p1⟩ trivial
    rw [if_pos rfl]
    have e2:riseL s (m ++ [x])=riseL s m + -(stepR s x).m:=by
     rw [rise_app]
     show _ + -((stepR s x).m+0)=_
     omega
    rw [e2]
    have bd2:=rise_bd h hw.ok
    rw [e2] at bd2
    have len2:=hw.len
    omega
 ·rw [if_neg g]
  refine ⟨hr.len,hr.low,hr.met,fun v l hv' hw hE => ?_⟩
  rcases hE with hE | ⟨m,rfl⟩
  ·exact hr.most v l hv' hw hE
  ·exfalso
   obtain ⟨w,p1,p2⟩:=zBl.1 hw.pth
   have eu:(stepR s x).a=w:=p2.1
   subst eu
   have hl:=hw.len
   simp at hl
   exact g (hb.most (stepR s x).a m hu ⟨fun y hy=>hw.ok y (List.mem_append_left _ hy),hl,p1⟩ trivial).1
theorem RowP.imp {s:Survey} {n a k:Nat} {E F:List Stp→Prop} {r:List Int} (h:RowP s n a k E r) (hi:∀ v l,Wl s a k v l→F l→E l):RowP s n a k F r:=
 ⟨h.len,h.low,h.met,fun v l hv hw hF=>h.most v l hv hw (hi v l hw hF)⟩
theorem row_all {s:Survey} (h:Sw s) {a k:Nat} (hk:k≤100) {b:List Int} (hb:RowP s (num s) a k (fun _=>True) b):RowP s (num s) a (k+1) (fun _=>True) (walkRow s b):=by
 have hfar:far=1099511627776:=rfl
 have key:∀ i,i≤s.sights.length→RowP s (num s) a (k+1) (fun l => ∃ m x,l=m ++ [x]∧x.sight<(i:Int)) ((s.sights.take i).foldl (rowStep b) (List.replicate (num s) (-far))):=by
  intro i
  induction i with
  | zero =>
   intro _
   have e:∀ v,v<num s→(List.replicate (num s) (-far)).getD v 0 = -far:=fun v hv=>by
    rw [zG,yD,if_pos hv];rfl
   refine ⟨by simp,fun v hv => ?_,fun v hv hg => ?_,fun v l hv hw ⟨m,x,e1,e2⟩ => ?_⟩
   ·rw [List.take_zero,List.foldl_nil,e v hv];omega
   ·rw [List.take_zero,List.foldl_nil,e v hv] at hg;omega
   ·subst e1
    have:=hw.ok x (by simp)
    omega
  | succ i ih =>
   intro hi
   have hI:=ih (by omega)
   have hx:s.sights[i]=sightAt s (i:Int):=by
    unfold sightAt
    rw [qO,zG,zF (by omega)];rfl
   rw [qM (by omega),List.foldl_append,hx]
   have ok:∀ bk,0≤(Stp.mk (i:Int) bk).sight∧(Stp.mk (i:Int) bk).sight<s.sights.length:=fun bk=>⟨by show (0:Int)≤i;omega,by show (i:Int)<_;omega⟩
   have ab:∀ bk,(stepR s ⟨i,bk⟩).a<num s∧(stepR s ⟨i,bk⟩).b<num s:=fun bk=>by
    have:=step_ne h (ok bk)
    have ea:(stepR s ⟨i,bk⟩).a=(stepB s ⟨i,bk⟩).a:=by unfold stepR stepB stepG;split <;> rfl
    have eb:(stepR s ⟨i,bk⟩).b=(stepB s ⟨i,bk⟩).b:=by unfold stepR stepB stepG;split <;> rfl
    rw [ea,eb];exact this.2
   have h1:=row_one h hk hb hI (ok false) (ab false).1 (ab false).2
   have h2:=row_one h hk hb h1 (ok true) (ab true).1 (ab true).2
   have e1:-(stepR s ⟨i,false⟩).m=(sightAt s (i:Int)).rise:=by
    show - -(sightAt s (i:Int)).rise=_;omega
   have e2:-(stepR s ⟨i,true⟩).m = -(sightAt s (i:Int)).rise:=rfl
   rw [e1] at h1 h2
   rw [e2] at h2
   refine RowP.imp (show RowP s (num s) a (k+1) _ _ from h2) fun v l hw ⟨m,x,e3,e4⟩ => ?_
   by_cases g:x.sight<(i:Int)
   ·exact .inl (.inl ⟨m,x,e3,g⟩)
   ·have hxs:=(hw.ok x (by rw [e3];simp)).1
    have:x.sight=(i:Int):=by omega
    cases hb':x.back with
    | false=>exact .inl (.inr ⟨m,by rw [e3];congr 1;cases x;simp only at this hb';subst this;subst hb';rfl⟩)
    | true=>exact .inr ⟨m,by rw [e3];congr 1;cases x;simp only at this hb';subst this;subst hb';rfl⟩
 have:=key s.sights.length (zM _)
 rw [yO] at this
 refine RowP.imp this fun v l hw _ => ?_
 rcases List.eq_nil_or_concat l with rfl | ⟨m,x,rfl⟩
 ·have:=hw.len
  simp at this
 ·rw [List.concat_eq_append] at hw ⊢
  exact ⟨m,x,rfl,(hw.ok x (by simp)).2⟩
def zBr (n a:Nat):List Int:=(List.replicate n (-far)).set a 0
theorem row_still (s:Survey) {n a:Nat} (ha:a<n):RowP s n a 0 (fun _=>True) (zBr n a):=by
 have hfar:far=1099511627776:=rfl
 have hset:=fun w=>getD_set (r:=List.replicate n (-far)) (v:=a) (w:=w) (x:=0) (by simpa using ha)
 have e:∀ v,v<n→(List.replicate n (-far)).getD v 0 = -far:=fun v hv=>by
  rw [zG,yD,if_pos hv];rfl
 unfold zBr
 refine ⟨by simp,fun v hv => ?_,fun v hv hg => ?_,fun v l hv hw _ => ?_⟩
 ·rw [hset];split
  ·omega
  ·rw [e v hv];omega
 ·rw [hset] at hg ⊢
  by_cases g:v=a
  ·subst g;exact ⟨[],⟨fun x hx=>(by cases hx),rfl,rfl⟩,by rw [if_pos rfl];rfl⟩
  ·rw [if_neg g,e v hv] at hg;omega
 ·have hl:l=[]:=List.length_eq_zero_iff.1 hw.len
  subst hl
  have ea:a=v:=hw.pth
  subst ea
  rw [hset,if_pos rfl]
  exact ⟨by omega,by simp [riseL,tot]⟩
def walkN (s:Survey):Nat→Nat→List Int
 | 0,a=>zBr (num s) a
 | k+1,a=>walkRow s (walkN s k a)
theorem walkN_row {s:Survey} (h:Sw s) {a:Nat} (ha:a<num s):∀ k,k≤100→RowP s (num s) a k (fun _=>True) (walkN s k a)
 | 0,_=>row_still s ha
 | k+1,hk=>row_all h (by omega) (walkN_row h ha k (by omega))
def better (o:Int × Int) (n d:Int):Int × Int:=if n > -far∧n * o.2 > o.1 * d then (n,d) else o
def zDg (s:Survey) (i:Nat) (o:Int × Int):Int × Int:=(List.range (num s)).foldl (fun o a=>better o ((walkN s (i+1) a).getD a 0) (i+1:Nat)) o
def leastF (s:Survey):Int × Int:=(List.range (num s)).foldl (fun o i=>zDg s i o) (0,1)
structure ErrQ (s:Survey) (M:Nat→Nat→Prop) (o:Int × Int):Prop where
 den:0<o.2∧o.2≤num s
 num0:0≤o.1∧o.1≤1000 * o.2
 most:∀ l a,StepsIn s l→l≠[]→Pth (stepR s) a l a→a<num s→l.length≤num s→M l.length a→riseL s l * o.2≤o.1 * l.length
 met:o.1=0 ∨ ∃ l,StepsIn s l∧l≠[]∧(∃ u,Pth (stepR s) u l u)∧riseL s l * o.2=o.1 * l.length
theorem better_ok {s:Survey} (h:Sw s) {M:Nat→Nat→Prop} {o:Int × Int} (ho:ErrQ s M o) {i a:Nat} (hi:i<num s) (ha:a<num s):ErrQ s (fun k b=>M k b∨(k=i+1∧b=a)) (better o ((walkN s (i+1) a).getD a 0) (i+1:Nat)):=by
 have hn:=h.num8
 have hw:=walkN_row h ha (i+1) (by omega)
 obtain ⟨d1,d2⟩:=ho.den
 have hnew:∀ l,StepsIn s l→Pth (stepR s) a l a→l.length=i+1→(walkN s (i+1) a).getD a 0 > -far∧riseL s l≤(walkN s (i+1) a).getD a 0:=fun l h1 h2 h3=>hw.most a l ha ⟨h1,h3,h2⟩ trivial
 unfold better
 generalize hv:(walkN s (i+1) a).getD a 0=v at *
 by_cases g:v > -far∧v * o.2 > o.1 * (i+1:Nat)
 ·rw [if_pos g]
  obtain ⟨l0,w0,e0⟩:=hw.met a ha (by rw [hv];exact g.1)
  rw [hv] at e0
  have bd:=rise_bd h w0.ok
  have hl0:=w0.len
  have hpos:0≤o.1 * (i+1:Nat):=yI ho.num0.1 (by omega)
  have hv0:0<v:=by
   refine Int.not_le.1 fun hle => ?_
   have:=qQ hle (Int.le_of_lt d1)
   rw [Int.zero_mul] at this
   have:=g.2
   omega
  refine ⟨⟨by show (0:Int)<((i+1:Nat):Int);omega,by show ((i+1:Nat):Int)≤_;omega⟩,⟨by show 0≤v;omega,by
   show v≤1000 * ((i+1:Nat):Int)
   rw [← e0,← hl0];exact bd.2⟩,fun l b h1 h2 h3 h4 h5 h6 => ?_,.inr ⟨l0,w0.ok,fun e=>by rw [e] at hl0;simp at hl0,⟨a,w0.pth⟩,by
   show riseL s l0 * ((i+1:Nat):Int)=v * l0.length
   rw [e0,hl0]⟩⟩
  rcases h6 with h6 | ⟨h6,rfl⟩
  ·have:=ho.most l b h1 h2 h3 h4 h5 h6
   show riseL s l * ((i+1:Nat):Int)≤v * l.length
   exact mean_trans (t:=riseL s l) (P:=o.2) (p:=o.1) (m:=l.length) (l:=v) (L:=((i+1:Nat):Int)) d1 (by omega) (by omega) this (by have:=g.2;omega)
  ·have:=(hnew l h1 h3 h6).2
   show riseL s l * ((i+1:Nat):Int)≤v * l.length
   rw [h6]
   exact qQ this (by omega)
 ·rw [if_neg g]
  refine ⟨ho.den,ho.num0,fun l b h1 h2 h3 h4 h5 h6 => ?_,ho.met⟩
  rcases h6 with h6 | ⟨h6,rfl⟩
  ·exact ho.most l b h1 h2 h3 h4 h5 h6
  ·obtain ⟨q1,q2⟩:=hnew l h1 h3 h6
   have q3:v * o.2≤o.1 * (i+1:Nat):=Int.not_lt.1 fun hh=>g ⟨q1,hh⟩
   have q4:riseL s l * o.2≤v * o.2:=qQ q2 (Int.le_of_lt d1)
   rw [h6];omega
theorem least_ok {s:Survey} (h:Sw s):ErrQ s (fun k a=>1≤k∧k≤num s∧a<num s) (leastF s):=by
 have hn:=h.num8
 have hst:=h.st
 have start:ErrQ s (fun _ _=>False) (0,1):=⟨⟨by show (0:Int)<1;decide,by show (1:Int)≤((num s:Nat):Int);show (1:Int)≤(s.stations.toNat:Int);omega⟩,⟨qZ _,by show (0:Int)≤1000 * 1;decide⟩,fun l a _ _ _ _ _ hf=>hf.elim,.inl rfl⟩
 have imp:∀ {M M':Nat→Nat→Prop} {o:Int × Int},ErrQ s M o→(∀ k b,M' k b→M k b)→ErrQ s M' o:=fun ho hi=>⟨ho.den,ho.num0,fun l a h1 h2 h3 h4 h5 h6=>ho.most l a h1 h2 h3 h4 h5 (hi _ _ h6),ho.met⟩
 have rowK:∀ i,i<num s → ∀ o,ErrQ s (fun k b=>1≤k∧k≤i∧b<num s) o→ErrQ s (fun k b=>1≤k∧k≤i+1∧b<num s) (zDg s i o):=by
  intro i hi o ho
  have:=fold_ind (fun a o=>ErrQ s (fun k b=>(1≤k∧k≤i∧b<num s)∨(k=i+1∧b<a)) o) (fun o a=>better o ((walkN s (i+1) a).getD a 0) (i+1:Nat)) o (num s) (imp ho fun k b hb=>hb.elim id fun hh=>absurd hh.2 (qU _)) fun a ha o ho=>imp (better_ok h ho hi ha) fun k b hb=>by
   rcases hb with hb | ⟨e1,e2⟩
   ·exact .inl (.inl hb)
   ·by_cases g:b<a
    ·exact .inl (.inr ⟨e1,g⟩)
    ·exact .inr ⟨e1,by omega⟩
  refine imp this fun k b ⟨e1,e2,e3⟩ => ?_
  by_cases g:k≤i
  ·exact .inl ⟨e1,g,e3⟩
  ·exact .inr ⟨by omega,e3⟩
 exact fold_ind (fun i o=>ErrQ s (fun k b=>1≤k∧k≤i∧b<num s) o) (fun o i=>zDg s i o) (0,1) (num s) (imp start fun k b hb=>by omega) fun i hi o ho=>rowK i hi o ho
theorem least_err {s:Survey} (h:Sw s):ErrP s (leastF s).1 (leastF s).2:=by
 have ho:=least_ok h
 refine ⟨ho.den.1,ho.num0.1,fun l hl hs => ?_,ho.met⟩
 have hs':Simple (stepB s) l:=simple_ends hs
 have hlen:=hs'.short fun x hx=>(step_ne h (hl x hx)).2.2
 obtain ⟨u,hu⟩:=hs.closed
 have hun:u<num s:=by
  match l,hs.ne,hu,hl with
  | x :: l,_,hu,hl =>
   have e:(stepR s x).a=u:=hu.1
   have ea:(stepR s x).a=(stepB s x).a:=by unfold stepR stepB stepG;split <;> rfl
   rw [← e,ea];exact (step_ne h (hl x zP)).2.1
 have hpos:=List.length_pos_iff.2 hs.ne
 exact ho.most l u hl hs.ne hu hun hlen ⟨by omega,hlen,hun⟩
def bgS (s:Survey) (x:Stp):Int:=if x.back=true then (sightAt s x.sight).to else (sightAt s x.sight).frm
def enS (s:Survey) (x:Stp):Int:=if x.back=true then (sightAt s x.sight).frm else (sightAt s x.sight).to
def stpD:Stp:=⟨0,false⟩
def chainB (s:Survey) (l:List Stp):Bool:=(List.range l.length).all fun i=>(decide (i=0) || decide (bgS s (l.getD i stpD)=enS s (l.getD (i - 1) stpD))) && (List.range i).all fun k => !decide (enS s (l.getD k stpD)=enS s (l.getD i stpD))
def closedB (s:Survey) (l:List Stp):Bool:=decide (l.length > 1) && (chainB s l && decide (bgS s (l.getD 0 stpD)=enS s (l.getD (l.length - 1) stpD)))
def Lnk (s:Survey):List Stp→Prop
 | x :: y :: l=>bgS s y=enS s x∧Lnk s (y :: l)
 | _=>True
theorem lnk_iff {s:Survey}:∀ {l:List Stp},Lnk s l ↔ ∀ i,0<i→i<l.length→bgS s (l.getD i stpD)=enS s (l.getD (i - 1) stpD)
 | []=>⟨fun _ i _ h2=>absurd h2 (qU _),fun _=>trivial⟩
 | [x]=>⟨fun _ i h1 h2=>by simp at h2;omega,fun _=>trivial⟩
 | x :: y :: l=>by
  show (bgS s y=enS s x∧Lnk s (y :: l))↔_
  rw [lnk_iff (l:=y :: l)]
  constructor
  ·rintro ⟨h1,h2⟩ i hi hl
   match i,hi with
   | 1,_=>exact h1
   | i+2,_=>exact h2 (i+1) (by omega) (by simp at hl ⊢;omega)
  ·intro h
   exact ⟨h 1 (by decide) (by simp),fun i hi hl=>h (i+1) (by omega) (by simp at hl ⊢;omega) |>.trans (by
    obtain ⟨k,rfl⟩:∃ k,i=k+1:=⟨i - 1,by omega⟩
    rfl)⟩
theorem nodup_idx {α:Type} [DecidableEq α] (g:Stp→α):∀ {l:List Stp},(l.map g).Nodup ↔ ∀ i,i<l.length → ∀ k,k<i→g (l.getD k stpD)≠g (l.getD i stpD):=by
 intro l
 unfold List.Nodup
 rw [List.pairwise_iff_getElem]
 simp only [List.length_map,List.getElem_map]
 constructor
 ·intro h i hi k hk
  have:=h k i (by omega) hi hk
  rw [zG,zG,zF hi,zF (by omega:k<l.length)]
  exact this
 ·intro h k i hk hi hki
  have:=h i hi k hki
  rw [zG,zG,zF hi,zF hk] at this
  exact this
theorem zDa {s:Survey} {l:List Stp}:chainB s l=true↔Lnk s l∧(l.map (enS s)).Nodup:=by
 unfold chainB
 rw [lnk_iff,nodup_idx,yG]
 simp only [List.mem_range,zT,Bool.or_eq_true,decide_eq_true_eq,yG,yE,decide_eq_false_iff_not]
 constructor
 ·intro h
  exact ⟨fun i hi hl=>(h i hl).1.resolve_left (by omega),fun i hi k hk=>(h i hi).2 k hk⟩
 ·rintro ⟨h1,h2⟩ i hi
  refine ⟨?_,fun k hk=>h2 i hi k hk⟩
  by_cases e:i=0
  ·exact .inl e
  ·exact .inr (h1 i (by omega) hi)
def riseS (s:Survey) (x:Stp):Int:=if x.back=true then -(sightAt s x.sight).rise else (sightAt s x.sight).rise
theorem rise_step (s:Survey) (x:Stp):-(stepR s x).m=riseS s x:=by
 unfold stepR stepG riseS
 cases x.back
 ·show - -(sightAt s x.sight).rise=_;simp
 ·rfl
def stpAt (i:Nat):Stp:=⟨(i / 2:Nat),decide (i % 2=1)⟩
theorem stpAt_all {s:Survey} {x:Stp} (h:0≤x.sight∧x.sight<s.sights.length):∃ i,i<2 * s.sights.length∧stpAt i=x:=by
 obtain ⟨n,b⟩:=x
 have h1:0≤n∧n<s.sights.length:=h
 cases b with
 | false =>
  refine ⟨2 * n.toNat,by omega, ?_⟩
  unfold stpAt
  rw [show 2 * n.toNat / 2=n.toNat by omega,show 2 * n.toNat % 2=0 by omega]
  simp;omega
 | true =>
  refine ⟨2 * n.toNat+1,by omega, ?_⟩
  unfold stpAt
  rw [show (2 * n.toNat+1) / 2=n.toNat by omega,show (2 * n.toNat+1) % 2=1 by omega]
  simp;omega
theorem stpAt_in {s:Survey} {i:Nat} (h:i<2 * s.sights.length):0≤(stpAt i).sight∧(stpAt i).sight<s.sights.length:=by
 unfold stpAt
 exact ⟨by show (0:Int)≤((i / 2:Nat):Int);omega,by show ((i / 2:Nat):Int)<_;omega⟩
def goesB (s:Survey) (now:List Stp) (x:Stp):Bool:=chainB s (now ++ [x]) && decide (enS s x ≥ bgS s ((now ++ [x]).getD 0 stpD))
def greater (than:Int × Int) (sum n:Int):Int × Int:=if sum * than.2 > than.1 * n then (sum,n) else than
def worstF (s:Survey):Nat→List Stp→Int→Int × Int→Int × Int
 | 0,now,sum,than=>if closedB s now=true then greater than sum now.length else than
 | f+1,now,sum,than=>if closedB s now=true then greater than sum now.length else
  (List.range (2 * s.sights.length)).foldl (fun out i=>if goesB s now (stpAt i)=true then worstF s f (now ++ [stpAt i]) (sum+riseS s (stpAt i)) out else out) than
structure FrQ (s:Survey) (o:Int × Int):Prop where
 den:0<o.2∧o.2≤num s
 num0:0≤o.1∧o.1≤1000 * o.2
 met:o.1=0 ∨ ∃ l,StepsIn s l∧l≠[]∧(∃ u,Pth (stepR s) u l u)∧riseL s l * o.2=o.1 * l.length
theorem zCn {A B:List Stp} {j:Nat} (h:j<A.length):(A ++ B).getD j stpD=A.getD j stpD:=by
 rw [zG,qJ h,← zG]
def redF (o:Int × Int):Int × Int:=(((o.1.toNat / Nat.gcd o.1.toNat o.2.toNat:Nat):Int),((o.2.toNat / Nat.gcd o.1.toNat o.2.toNat:Nat):Int))
structure RedP (s:Survey) (o:Int × Int):Prop where
 err:ErrP s o.1 o.2
 den:1≤o.2∧o.2≤num s
 num0:0≤o.1∧o.1≤1000 * o.2
theorem red_ok {s:Survey} {o:Int × Int} (he:ErrP s o.1 o.2) (hd:o.2≤num s) (hn:o.1≤1000 * o.2):RedP s (redF o):=by
 obtain ⟨a,b⟩:=o
 have h1:0≤a:=he.num0
 have h2:0<b:=he.den
 obtain ⟨a,rfl⟩:∃ n:Nat,a=n:=⟨a.toNat,by omega⟩
 obtain ⟨b,rfl⟩:∃ n:Nat,b=n:=⟨b.toNat,by omega⟩
 have hb:0<b:=by omega
 have g1:0<Nat.gcd a b:=Nat.gcd_pos_of_pos_right a hb
 have ea:a=Nat.gcd a b * (a / Nat.gcd a b):=(Nat.mul_div_cancel' (Nat.gcd_dvd_left a b)).symm
 have eb:b=Nat.gcd a b * (b / Nat.gcd a b):=(Nat.mul_div_cancel' (Nat.gcd_dvd_right a b)).symm
 have er:redF ((a:Int),(b:Int))=(((a / Nat.gcd a b:Nat):Int),((b / Nat.gcd a b:Nat):Int)):=by unfold redF;simp only [qO]
 rw [er]
 generalize hx:a / Nat.gcd a b=x at *
 generalize hy:b / Nat.gcd a b=y at *
 generalize Nat.gcd a b=g at *
 have hy0:0<y:=Nat.pos_of_ne_zero fun h0=>by subst h0;simp at eb;omega
 have eai:(a:Int)=g * x:=by rw [ea];exact Int.natCast_mul g x
 have ebi:(b:Int)=g * y:=by rw [eb];exact Int.natCast_mul g y
 have hg:(0:Int)<g:=by omega
 have hmost:=he.most
 have hmet:=he.met
 have hd':(b:Int)≤num s:=hd
 have hn':(a:Int)≤1000 * (b:Int):=hn
 rw [eai] at hmet
 rw [ebi] at hmet
 have cancel:∀ u v:Int,g * u≤g * v→u≤v:=fun u v h=>Int.le_of_mul_le_mul_left h hg
 have cancelE:∀ u v:Int,g * u=g * v→u=v:=fun u v h=>Int.le_antisymm (cancel u v (Int.le_of_eq h)) (cancel v u (Int.le_of_eq h.symm))
 have ass1:∀ r:Int,r * (g * (y:Int))=g * (r * y):=fun r=>by rw [← qV,Int.mul_comm r g,qV]
 refine ⟨⟨by show (0:Int)<(y:Int);omega,by show (0:Int)≤(x:Int);omega,fun l hl hs => ?_, ?_⟩,⟨by show (1:Int)≤(y:Int);omega, ?_⟩,⟨by show (0:Int)≤(x:Int);omega, ?_⟩⟩
 ·have:=hmost l hl hs
  have h':riseL s l * (b:Int)≤(a:Int) * l.length:=this
  rw [eai,ebi,ass1,qV] at h'
  exact cancel _ _ h'
 ·rcases hmet with h0 | ⟨l,l1,l2,l3,l4⟩
  ·left
   have h0':(g:Int) * x=g * 0:=by rw [Int.mul_zero];exact h0
   exact cancelE _ _ h0'
  ·right
   refine ⟨l,l1,l2,l3, ?_⟩
   have h':riseL s l * (g * (y:Int))=g * (x:Int) * l.length:=l4
   rw [ass1,qV] at h'
   exact cancelE _ _ h'
 ·show (y:Int)≤num s
  have hyb:y≤b:=by
   rw [eb];exact Nat.le_mul_of_pos_left y g1
  omega
 ·show (x:Int)≤1000 * (y:Int)
  rw [eai,ebi,← qV,Int.mul_comm 1000 (g:Int),qV] at hn'
  exact cancel _ _ hn'
def errF (s:Survey):Int × Int:=redF (leastF s)
theorem err_ok {s:Survey} (h:Sw s):RedP s (errF s):=by
 have:=least_ok h
 exact red_ok (least_err h) this.den.2 this.num0.2
def flip (x:Stp):Stp:=⟨x.sight,!x.back⟩
theorem flip_in {s:Survey} {l:List Stp} (h:StepsIn s l):StepsIn s (l.reverse.map flip):=fun x hx=>by
 obtain ⟨y,hy,rfl⟩:=List.mem_map.1 hx
 exact h y (List.mem_reverse.1 hy)
theorem flip_ends (s:Survey) (p q:Sight→Int) (x:Stp):(stepG p q s (flip x)).a=(stepG p q s x).b∧(stepG p q s (flip x)).b=(stepG p q s x).a:=by
 unfold stepG flip
 cases x.back <;> exact ⟨rfl,rfl⟩
theorem flip_pth {s:Survey} {p q:Sight→Int}:∀ {l:List Stp} {u v:Nat},Pth (stepG p q s) u l v→Pth (stepG p q s) v (l.reverse.map flip) u
 | [],u,v,h=>h.symm
 | x :: l,u,v,h=>by
  obtain ⟨h1,h2⟩:=h
  have:=flip_pth h2
  rw [List.reverse_cons,qS]
  obtain ⟨e1,e2⟩:=flip_ends s p q x
  exact zBl.2 ⟨_,this,e1,by show (stepG p q s (flip x)).b=u;rw [e2];exact h1⟩
theorem flip_rise (s:Survey):∀ l:List Stp,riseL s (l.reverse.map flip) = -riseL s l
 | []=>rfl
 | x :: l=>by
  rw [List.reverse_cons,qS,rise_app,flip_rise s l]
  have e1:riseL s (List.map flip [x])=riseS s (flip x):=by
   show -((stepR s (flip x)).m+0)=_
   rw [← rise_step];omega
  have e2:riseL s (x :: l)=riseS s x+riseL s l:=by
   rw [← rise_step]
   show -((stepR s x).m+tot (stepR s) l)=_
   unfold riseL;omega
  have e3:riseS s (flip x) = -riseS s x:=by
   unfold riseS flip
   cases x.back <;> simp
  rw [e1,e2,e3];omega
def evenB (s:Survey) (by' off:Int):List Bd:=s.sights.flatMap (sightD by' off)
theorem mem_evenB {s:Survey} {d o:Int} {c:Bd}:c∈evenB s d o ↔ ∃ x∈s.sights,c=⟨x.frm.toNat,x.to.toNat,x.rise * d+o⟩∨c=⟨x.to.toNat,x.frm.toNat,o - x.rise * d⟩:=by
 unfold evenB sightD
 simp only [List.mem_flatMap,yM,yA,or_false]
abbrev stepE (s:Survey) (d o:Int):Stp→Bd:=stepG (fun y=>y.rise * d+o) (fun y=>o - y.rise * d) s
theorem mem_stepE {s:Survey} {d o:Int} {c:Bd} (h:c∈evenB s d o):∃ x:Stp,(0≤x.sight∧x.sight<s.sights.length)∧stepE s d o x=c:=by
 obtain ⟨y,hy,hc⟩:=mem_evenB.1 h
 obtain ⟨i,hi,rfl⟩:=List.mem_iff_getElem.1 hy
 have e:sightAt s (i:Int)=s.sights[i]:=by
  unfold sightAt
  rw [qO,zG,zF hi];rfl
 rcases hc with rfl | rfl
 ·exact ⟨⟨i,false⟩,⟨by show (0:Int)≤i;omega,by show (i:Int)<_;omega⟩,by unfold stepE stepG;rw [e];rfl⟩
 ·exact ⟨⟨i,true⟩,⟨by show (0:Int)≤i;omega,by show (i:Int)<_;omega⟩,by unfold stepE stepG;rw [e];rfl⟩
theorem stepsE_of {s:Survey} {d o:Int}:∀ m:List Bd,(∀ c∈m,c∈evenB s d o) → ∃ l:List Stp,StepsIn s l∧l.map (stepE s d o)=m
 | [],_=>⟨[],fun x hx=>(by cases hx),rfl⟩
 | c :: m,h=>by
  obtain ⟨x,hx,e⟩:=mem_stepE (h c zP)
  obtain ⟨l,hl,e2⟩:=stepsE_of m fun d hd=>h d (zR _ hd)
  refine ⟨x :: l,fun y hy => ?_,by rw [List.map_cons,e,e2]⟩
  rcases List.mem_cons.1 hy with rfl | hy
  ·exact hx
  ·exact hl y hy
theorem tot_stepE (s:Survey) (d o:Int):∀ l:List Stp,tot (stepE s d o) l=riseL s l * d+o * l.length
 | []=>by simp [tot,riseL]
 | x :: l=>by
  have e1:(stepE s d o x).m=riseS s x * d+o:=by
   unfold stepE stepG riseS
   cases x.back
   ·rfl
   ·show o - (sightAt s x.sight).rise * d = -(sightAt s x.sight).rise * d+o
    rw [Int.neg_mul];omega
  have e2:riseL s (x :: l)=riseS s x+riseL s l:=by
   rw [← rise_step]
   show -((stepR s x).m+tot (stepR s) l)=_
   unfold riseL;omega
  show (stepE s d o x).m+tot (stepE s d o) l=_
  rw [e1,tot_stepE s d o l,e2,Int.add_mul,zW,Int.natCast_add,Int.mul_add]
  omega
theorem even_oks {s:Survey} (h:Sw s) {d o:Int} (hd:1≤d∧d≤8) (ho:0≤o∧o≤8000):Oks (num s) (evenB s d o):=fun c hc=>by
 obtain ⟨x,hx,hc⟩:=mem_evenB.1 hc
 have hs:=h.sights x hx
 have h1:=hs.frm;have h2:=hs.to;have h3:=hs.ne;have h4:=hs.rise
 have b1:x.rise * d≤1000 * 8:=yQ (qQ h4.2 (by omega)) (by omega)
 have b2:-8000≤x.rise * d:=by
  have:-1000 * d≤x.rise * d:=qQ h4.1 (by omega)
  omega
 rcases hc with rfl | rfl
 ·exact ⟨by show x.frm.toNat<s.stations.toNat;omega,by show x.to.toNat<s.stations.toNat;omega,by show x.frm.toNat≠x.to.toNat;omega,by show -20000≤x.rise * d+o;omega,by show x.rise * d+o≤20000;omega⟩
 ·exact ⟨by show x.to.toNat<s.stations.toNat;omega,by show x.frm.toNat<s.stations.toNat;omega,by show x.to.toNat≠x.frm.toNat;omega,by show -20000≤o - x.rise * d;omega,by show o - x.rise * d≤20000;omega⟩
theorem err_bd {s:Survey} (h:Sw s) {o:Int × Int} (hr:RedP s o):(1≤o.2∧o.2≤8)∧0≤o.1∧o.1≤8000:=by
 have h8:=h.num8
 have h1:=hr.den;have h2:=hr.num0
 omega
theorem even_some {s:Survey} (h:Sw s) {o:Int × Int} (hr:RedP s o):∃ V,clo (num s) (evenB s o.2 o.1)=some V:=by
 obtain ⟨b1,b2⟩:=err_bd h hr
 cases hV:clo (num s) (evenB s o.2 o.1) with
 | some V=>exact ⟨V,rfl⟩
 | none =>
  exfalso
  obtain ⟨m,m1,m2,m3⟩:=clo_none (even_oks h b1 b2) hV
  obtain ⟨l,l1,rfl⟩:=stepsE_of m m2
  have hs:Simple (stepE s o.2 o.1) l:=simple_map.1 m1
  rw [tot_map,tot_stepE] at m3
  obtain ⟨u,hu⟩:=hs.closed
  have hu2:Pth (stepR s) u l u:=pth_ends.1 hu
  have:=hr.err.walk (flip_in l1) (fun e=>hs.ne (by
   rw [List.map_eq_nil_iff,List.reverse_eq_nil_iff] at e;exact e)) ⟨u,flip_pth hu2⟩
  rw [flip_rise,Int.neg_mul,List.length_map,List.length_reverse] at this
  omega
def firstI {β:Type} (f:Nat→Option β):Nat→Nat→Option β
 | _,0=>none
 | n,r+1=>match f n with
  | some x=>some x
  | none=>firstI f (n+1) r
theorem zDm {β:Type} {f g:Nat→Option β}:∀ {r n:Nat},(∀ i,n≤i→i<n+r→f i=g i)→firstI f n r=firstI g n r
 | 0,n,_=>rfl
 | r+1,n,h=>by
  unfold firstI
  rw [h n (zM _) (by omega),zDm fun i h1 h2=>h i (by omega) (by omega)]
theorem firstI_some {β:Type} {f:Nat→Option β}:∀ {r n:Nat} {x:β},firstI f n r=some x → ∃ i,n≤i∧i<n+r∧f i=some x ∧ ∀ j,n≤j→j<i→f j=none
 | 0,n,x,e=>by cases e
 | r+1,n,x,e=>by
  unfold firstI at e
  cases hf:f n with
  | some y=>rw [hf] at e;cases e;exact ⟨n,zM _,by omega,hf,fun j h1 h2=>by omega⟩
  | none =>
   rw [hf] at e
   obtain ⟨i,h1,h2,h3,h4⟩:=firstI_some e
   refine ⟨i,by omega,by omega,h3,fun j h5 h6 => ?_⟩
   by_cases ej:j=n
   ·subst ej;exact hf
   ·exact h4 j (by omega) h6
theorem zDh {β:Type} {f:Nat→Option β}:∀ {r n:Nat},firstI f n r=none → ∀ j,n≤j→j<n+r→f j=none
 | 0,n,e,j,h1,h2=>by omega
 | r+1,n,e,j,h1,h2=>by
  unfold firstI at e
  cases hf:f n with
  | some y=>rw [hf] at e;cases e
  | none =>
   rw [hf] at e
   by_cases ej:j=n
   ·subst ej;exact hf
   ·exact zDh e j (by omega) (by omega)
theorem firstI_all {β:Type} {f:Nat→Option β}:∀ {r n:Nat},(∀ j,n≤j→j<n+r→f j=none)→firstI f n r=none
 | 0,n,_=>rfl
 | r+1,n,h=>by
  unfold firstI
  rw [h n (zM _) (by omega)]
  exact firstI_all fun j h1 h2=>h j (by omega) (by omega)
def ringB (s:Survey) (l:List Stp):Bool:=closedB s l && decide (tot (stepB s) l<0)
def ringA (s:Survey):Nat→List Stp→Option (List Stp)
 | 0,now=>if ringB s now=true then some now else none
 | m+1,now=>firstI (fun i=>ringA s m (now ++ [stpAt i])) 0 (2 * s.sights.length)
theorem ringA_none {s:Survey}:∀ {m:Nat} {now:List Stp},(∀ t,t.length=m→StepsIn s t→ringB s (now ++ t)=false)→ringA s m now=none
 | 0,now,h=>by
  unfold ringA
  have:=h [] rfl (fun x hx=>by cases hx)
  rw [List.append_nil] at this
  rw [this];rfl
 | m+1,now,h=>by
  unfold ringA
  refine firstI_all fun j _ hj=>ringA_none fun t ht hin => ?_
  have:=h (stpAt j :: t) (by simp [ht]) (fun x hx=>by
   rcases List.mem_cons.1 hx with rfl | hx
   ·exact stpAt_in (by omega)
   ·exact hin x hx)
  rw [show now ++ stpAt j :: t=(now ++ [stpAt j]) ++ t by simp] at this
  exact this
theorem stpAt_inj {i j:Nat} (h:stpAt i=stpAt j):i=j:=by
 unfold stpAt at h
 simp only [Stp.mk.injEq,decide_eq_decide] at h
 omega
def Bf:List Stp→List Stp→Prop
 | x :: a,y :: b=>(∃ i j,i<j∧stpAt i=x∧stpAt j=y)∨(x=y∧Bf a b)
 | _,_=>False
theorem ringA_some {s:Survey}:∀ {m:Nat} {now l:List Stp},ringA s m now=some l → ∃ t,l=now ++ t∧t.length=m∧StepsIn s t∧ringB s l=true ∧ ∀ u,u.length=m→StepsIn s u→ringB s (now ++ u)=true → ¬ Bf u t
 | 0,now,l,h=>by
  unfold ringA at h
  split at h
  ·rename_i hr
   cases h
   exact ⟨[],by simp,rfl,fun x hx=>(by cases hx),hr,fun u _ _ _ hb=>by cases u <;> exact hb⟩
  ·cases h
 | m + 1,now,l,h=>by
  unfold ringA at h
  obtain ⟨i,_,h2,h3,h4⟩:=firstI_some h
  obtain ⟨t,t1,t2,t3,t4,t5⟩:=ringA_some h3
  refine ⟨stpAt i :: t,by rw [t1];simp,by simp [t2],fun x hx => ?_,t4,fun u hu hin hr hb => ?_⟩
  ·rcases List.mem_cons.1 hx with rfl | hx
   ·exact stpAt_in (by omega)
   ·exact t3 x hx
  ·cases u with
   | nil=>cases hu
   | cons y u =>
    have hul:u.length=m:=by simpa using hu
    have e:now ++ y :: u=(now ++ [y]) ++ u:=by simp
    rw [e] at hr
    rcases hb with ⟨j,k,hjk,ej,ek⟩ | ⟨ey,hb⟩
    ·have:k=i:=stpAt_inj ek
     subst this
     subst ej
     have hn:=h4 j (qG _) hjk
     have key:∀ {m:Nat} {now:List Stp},ringA s m now=none → ∀ t,t.length=m→StepsIn s t→ringB s (now ++ t)=true→False:=by
      intro m
      induction m with
      | zero =>
       intro now hn t ht _ hr
       have:t=[]:=List.length_eq_zero_iff.1 ht
       subst this
       rw [List.append_nil] at hr
       unfold ringA at hn
       rw [if_pos hr] at hn;cases hn
      | succ m ih =>
       intro now hn t ht hin hr
       cases t with
       | nil=>cases ht
       | cons z t =>
        obtain ⟨q,hq,rfl⟩:=stpAt_all (hin z zP)
        unfold ringA at hn
        have:=zDh hn q (qG _) (by omega)
        rw [show now ++ stpAt q :: t=(now ++ [stpAt q]) ++ t by simp] at hr
        exact ih this t (by simpa using ht) (fun x hx=>hin x (zR _ hx)) hr
     exact key hn u hul (fun x hx=>hin x (zR _ hx)) hr
    ·subst ey
     exact t5 u hul (fun x hx=>hin x (zR _ hx)) hr hb
theorem ring_chain {s:Survey} {l t:List Stp} (h:ringB s (l ++ t)=true):chainB s l=true:=by
 unfold ringB closedB at h
 rw [zT,zT,zT,zDa] at h
 obtain ⟨⟨_,⟨c1,c2⟩,_⟩,_⟩:=h
 rw [zDa]
 refine ⟨?_, ?_⟩
 ·rw [lnk_iff] at c1 ⊢
  intro j hj hl
  have:=c1 j hj (by rw [qC];omega)
  rw [zCn hl,zCn (A:=l) (B:=t) (j:=j - 1) (by omega)] at this
  exact this
 ·rw [qS,List.nodup_append] at c2
  exact c2.1
def ringR (s:Survey):Nat→List Stp→Option (List Stp)
 | 0,now=>if ringB s now=true then some now else none
 | m+1,now=>firstI (fun i=>if chainB s (now ++ [stpAt i])=true then ringR s m (now ++ [stpAt i]) else none) 0 (2 * s.sights.length)
def ringL (s:Survey):Nat→List Stp→Stp→Option (List Stp)
 | 0,w,y=>if enS s y=bgS s ((w ++ [y]).getD 0 stpD)∧tot (stepB s) (w ++ [y])<0 then some (w ++ [y]) else none
 | m+1,w,y=>if enS s y=bgS s ((w ++ [y]).getD 0 stpD)∨enS s y∈w.map (enS s) then none else firstI (fun i=>if bgS s (stpAt i)=enS s y then ringL s m (w ++ [y]) (stpAt i) else none) 0 (2 * s.sights.length)
structure RingI (s:Survey) (w:List Stp) (y:Stp):Prop where
 lnk:Lnk s (w ++ [y])
 once:(w.map (enS s)).Nodup
 start:bgS s ((w ++ [y]).getD 0 stpD) ∉ w.map (enS s)
theorem last_getD (w:List Stp) (y:Stp):(w ++ [y]).getD ((w ++ [y]).length - 1) stpD=y:=by
 rw [zG];simp
theorem nodup_snoc {α:Type} {l:List α} {a:α}:(l ++ [a]).Nodup↔l.Nodup∧a ∉ l:=by
 rw [List.nodup_append]
 simp only [List.nodup_cons,yA,not_false_eq_true,List.nodup_nil,true_and,yM,yA,or_false,forall_eq]
 exact ⟨fun ⟨h1,h2⟩=>⟨h1,fun hm=>h2 a hm rfl⟩,fun ⟨h1,h2⟩=>⟨h1,fun x hx e=>h2 (e ▸ hx)⟩⟩
theorem lnk_snoc {s:Survey} {w:List Stp} {y x:Stp} (h:Lnk s (w ++ [y])) (hx:bgS s x=enS s y):Lnk s ((w ++ [y]) ++ [x]):=by
 rw [lnk_iff] at h ⊢
 intro j hj hl
 by_cases g:j<(w ++ [y]).length
 ·rw [zCn g,zCn (A:=w ++ [y]) (B:=[x]) (j:=j - 1) (by omega)]
  exact h j hj g
 ·have e:j=(w ++ [y]).length:=by rw [qC] at hl;simp at hl g ⊢;omega
  subst e
  rw [zCn (A:=w ++ [y]) (B:=[x]) (j:=(w ++ [y]).length - 1) (by simp),last_getD]
  have:(w ++ [y] ++ [x]).getD (w ++ [y]).length stpD=x:=by
   rw [zG,zY (zM _),Nat.sub_self];rfl
  rw [this];exact hx
theorem ringL_eq (s:Survey):∀ (m:Nat) (w:List Stp) (y:Stp),RingI s w y→2≤w.length+1+m→ringL s m w y=ringA s m (w ++ [y])
 | 0,w,y,hI,hl=>by
  unfold ringL ringA
  have e:ringB s (w ++ [y])=true↔enS s y=bgS s ((w ++ [y]).getD 0 stpD)∧tot (stepB s) (w ++ [y])<0:=by
   unfold ringB closedB
   rw [zT,zT,zT,zDa,decide_eq_true_iff,decide_eq_true_iff,decide_eq_true_iff,last_getD]
   constructor
   ·rintro ⟨⟨_,_,h1⟩,h2⟩;exact ⟨h1.symm,h2⟩
   ·rintro ⟨h1,h2⟩
    refine ⟨⟨by simp;omega,⟨hI.lnk, ?_⟩,h1.symm⟩,h2⟩
    rw [qS]
    show (w.map (enS s) ++ [enS s y]).Nodup
    rw [nodup_snoc,h1]
    exact ⟨hI.once,hI.start⟩
  by_cases hr:ringB s (w ++ [y])=true
  ·rw [if_pos hr,if_pos (e.1 hr)]
  ·rw [if_neg hr,if_neg fun hh=>hr (e.2 hh)]
 | m + 1,w,y,hI,hl=>by
  unfold ringL
  by_cases c:enS s y=bgS s ((w ++ [y]).getD 0 stpD)∨enS s y∈w.map (enS s)
  ·rw [if_pos c]
   symm
   refine ringA_none fun t ht hin => ?_
   cases hr:ringB s (w ++ [y] ++ t) with
   | false=>rfl
   | true =>
    exfalso
    rcases c with c | c
    ·unfold ringB closedB at hr
     rw [zT,zT,zT,zDa,decide_eq_true_iff,decide_eq_true_iff] at hr
     obtain ⟨⟨_,⟨_,c2⟩,c3⟩,_⟩:=hr
     obtain ⟨t',z,rfl⟩:∃ t' z,t=t' ++ [z]:=by
      rcases List.eq_nil_or_concat t with e | ⟨t',z,e⟩
      ·subst e;cases ht
      ·exact ⟨t',z,by rw [e,List.concat_eq_append]⟩
     have e1:w ++ [y] ++ (t' ++ [z])=(w ++ [y] ++ t') ++ [z]:=by simp
     rw [e1,last_getD,← e1,zCn (by simp)] at c3
     rw [qS,List.nodup_append] at c2
     exact c2.2.2 (enS s y) (by simp) (enS s z) (by simp) (by rw [c,c3])
    ·have:=(zDa.1 (ring_chain hr)).2
     rw [qS] at this
     exact (nodup_snoc.1 this).2 c
  ·rw [if_neg c]
   have c1:enS s y≠bgS s ((w ++ [y]).getD 0 stpD):=fun h=>c (.inl h)
   have c2:enS s y ∉ w.map (enS s):=fun h=>c (.inr h)
   unfold ringA
   refine zDm fun i _ hi => ?_
   by_cases g:bgS s (stpAt i)=enS s y
   ·rw [if_pos g]
    refine ringL_eq s m (w ++ [y]) (stpAt i) ⟨lnk_snoc hI.lnk g, ?_, ?_⟩ (by simp;omega)
    ·rw [qS]
     exact nodup_snoc.2 ⟨hI.once,c2⟩
    ·rw [zCn (by simp),qS]
     intro hm
     rcases List.mem_append.1 hm with hm | hm
     ·exact hI.start hm
     ·simp only [List.map_cons,List.map_nil,yM,yA,or_false] at hm
      exact c1 hm.symm
   ·rw [if_neg g]
    symm
    refine ringA_none fun t _ _ => ?_
    cases hr:ringB s (w ++ [y] ++ [stpAt i] ++ t) with
    | false=>rfl
    | true =>
     exfalso
     have hc:=(zDa.1 (ring_chain hr)).1
     rw [lnk_iff] at hc
     have:=hc (w ++ [y]).length (by simp) (by simp)
     rw [zCn (A:=w ++ [y]) (B:=[stpAt i]) (j:=(w ++ [y]).length - 1) (by simp),last_getD] at this
     have e:(w ++ [y] ++ [stpAt i]).getD (w ++ [y]).length stpD=stpAt i:=by
      rw [zG,zY (zM _),Nat.sub_self];rfl
     rw [e] at this
     exact g this
theorem ring_len {s:Survey} {long:Nat} (h:2≤long):firstI (fun i=>ringL s (long - 1) [] (stpAt i)) 0 (2 * s.sights.length)=ringA s long []:=by
 obtain ⟨m,rfl⟩:∃ m,long=m+1:=⟨long - 1,by omega⟩
 unfold ringA
 refine zDm fun i _ _ => ?_
 rw [Nat.add_sub_cancel]
 exact ringL_eq s m [] (stpAt i) ⟨trivial,List.nodup_nil,fun h=>by cases h⟩ (by simp;omega)
def shortR (s:Survey):Option (List Stp):=firstI (fun long=>ringA s long []) 2 (num s - 1)
def withS (s:Survey) (x:Sight):Survey:={ s with sights:=s.sights ++ [x] }
theorem with_sw {s:Survey} (h:Sw s) {x:Sight} (hx:SightOk s.stations x):Sw (withS s x):=
 ⟨h.st,fun y hy=>by
  rcases List.mem_append.1 hy with hy | hy
  ·exact h.sights y hy
  ·rw [yP] at hy;subst hy;exact hx⟩
theorem with_more {s:Survey} (h:Sw s) {x:Sight} (hx:SightOk s.stations x):More (num s) (surveyB s) (surveyB (withS s x)) x.frm.toNat x.to.toNat (x.rise+x.off) (x.off - x.rise):=by
 have h':=with_sw h hx
 refine ⟨h.num8,h.oks,h'.oks,fun c => ?_,by have:=hx.off;omega⟩
 show c∈(s.sights ++ [x]).flatMap sightB↔_
 rw [List.flatMap_append,List.mem_append]
 refine or_congr Iff.rfl ?_
 unfold sightB
 simp
def sum2 (a b:Int):Int:=if a ≥ far∨b ≥ far then far else a+b
def sum3 (a b c:Int):Int:=if a ≥ far∨b ≥ far∨c ≥ far then far else a+b+c
def withL (V:Mat) (x:Sight) (i j:Nat):Int:=
 min (min (ent V i j) (sum3 (ent V i x.frm.toNat) (x.rise+x.off) (ent V x.to.toNat j))) (sum3 (ent V i x.to.toNat) (x.off - x.rise) (ent V x.frm.toNat j))
def allowsB (V:Mat) (x:Sight):Bool:=!(decide (sum2 (ent V x.to.toNat x.frm.toNat) (x.rise+x.off)<0) || decide (sum2 (ent V x.frm.toNat x.to.toNat) (x.off - x.rise)<0))
theorem withL_eq {n:Int} {x:Sight} (hx:SightOk n x) (V:Mat) (i j:Nat):withL V x i j=withM V x.frm.toNat x.to.toNat (x.rise+x.off) (x.off - x.rise) i j:=by
 have h1:=hx.rise;have h2:=hx.off
 have hf:far=1099511627776:=rfl
 have e:∀ a p b:Int,p<far→sum3 a p b=if a<far∧b<far then a+p+b else far:=fun a p b hp=>by
  unfold sum3
  by_cases g:a<far∧b<far
  ·rw [if_pos g,if_neg (by omega)]
  ·rw [if_neg g,if_pos (by omega)]
 unfold withL withM
 rw [e _ _ _ (by omega),e _ _ _ (by omega)]
theorem allows_iff {n:Int} {x:Sight} (hx:SightOk n x) (V:Mat):allowsB V x=true↔Allows V x.frm.toNat x.to.toNat (x.rise+x.off) (x.off - x.rise):=by
 have h1:=hx.rise;have h2:=hx.off
 have hf:far=1099511627776:=rfl
 have e:∀ a p:Int,p<far→(sum2 a p<0↔a<far∧a+p<0):=fun a p hp=>by
  unfold sum2
  by_cases g:a<far
  ·rw [if_neg (by omega)];exact ⟨fun h=>⟨g,h⟩,fun h=>h.2⟩
  ·rw [if_pos (by omega)];exact ⟨fun h=>by omega,fun h=>absurd h.1 g⟩
 unfold allowsB
 rw [yE,Bool.or_eq_false_iff,decide_eq_false_iff_not,decide_eq_false_iff_not,e _ _ (by omega),e _ _ (by omega)]
 constructor
 ·rintro ⟨a1,a2⟩
  exact ⟨fun hlt=>Int.not_lt.1 fun hh=>a1 ⟨hlt,hh⟩,fun hlt=>Int.not_lt.1 fun hh=>a2 ⟨hlt,hh⟩⟩
 ·rintro ⟨a1,a2⟩
  exact ⟨fun ⟨hlt,hh⟩=>by have:=a1 hlt;omega,fun ⟨hlt,hh⟩=>by have:=a2 hlt;omega⟩
theorem with_known {s:Survey} (h:Sw s) {x:Sight} (hx:SightOk s.stations x) {V:Mat} (hV:knownV s=some V):(knownV (withS s x)).isSome=allowsB V x:=by
 rw [Bool.eq_iff_iff,allows_iff hx]
 exact more_allows (with_more h hx) (zBv h hV)
theorem with_ent {s:Survey} (h:Sw s) {x:Sight} (hx:SightOk s.stations x) {V V':Mat} (hV:knownV s=some V) (hV':knownV (withS s x)=some V') {i j:Nat} (hi:i<num s) (hj:j<num s) (hlt:ent V i j<far):ent V' i j=withL V x i j:=by
 rw [withL_eq hx]
 exact more_ent (with_more h hx) (zBv h hV) (zBv (with_sw h hx) hV') hi hj hlt
structure Try where
 frm:Int
 to:Int
 off:Int
 deriving DecidableEq
structure TryOk (n:Int) (x:Try):Prop where
 frm:0≤x.frm∧x.frm<n
 to:0≤x.to∧x.to<n
 ne:x.frm≠x.to
 off:0≤x.off∧x.off≤50
def tried (x:Try) (rise:Int):Sight:=⟨x.frm,x.to,rise,x.off⟩
theorem tried_ok {n:Int} {x:Try} (h:TryOk n x) {r:Int} (hr:-1000≤r∧r≤1000):SightOk n (tried x r):=⟨h.frm,h.to,h.ne,hr,h.off⟩
def riseAt (k:Nat):Int:=(k:Int) - 1000
def worstAt (V:Mat) (x:Try) (i j:Nat):Nat→Int
 | 0 => -1
 | k+1=>if allowsB V (tried x (riseAt k))=true then max (worstAt V x i j k) (withL V (tried x (riseAt k)) i j+withL V (tried x (riseAt k)) j i) else worstAt V x i j k
def widthAt (s:Survey) (x:Try) (i j:Nat):Nat→Int
 | 0 => -1
 | k+1=>match knownV (withS s (tried x (riseAt k))) with
  | some V'=>max (widthAt s x i j k) (ent V' i j - -ent V' j i)
  | none=>widthAt s x i j k
def worstW (V:Mat) (x:Try) (i j:Nat):Int:=if worstAt V x i j 2001<0 then ent V i j+ent V j i else worstAt V x i j 2001
end Go.Lv
end
