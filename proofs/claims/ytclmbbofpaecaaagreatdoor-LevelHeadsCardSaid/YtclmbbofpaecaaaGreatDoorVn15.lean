/- Part 15 of the proof. -/
import Derived.Test.YtclmbbofpaecaaaGreatDoorVn14
set_option linter.all false
set_option linter.unusedVariables false
set_option linter.unusedSimpArgs false
set_option linter.unusedSectionVars false
open Bool renaming and_eq_true → zT
open Int renaming mul_le_mul_of_nonneg_right → qQ, mul_assoc → qV, le_refl → qZ, mul_nonneg → yI, le_trans → yQ
open List renaming getElem?_eq_getElem → zF, getD_eq_getElem?_getD → zG, mem_cons_self → zP, mem_cons_of_mem → zR, getElem_mem → qB, not_mem_nil → yA, all_eq_true → yG, mem_cons → yM, mem_singleton → yP
open Nat renaming le_refl → zM, not_lt_zero → qU
section
namespace Go.Wk
open Go.Fw (Bd)
def Pth {α:Type} (f:α→Bd) (u:Nat):List α→Nat→Prop
 | [],v=>u=v
 | x :: l,v=>(f x).a=u∧Pth f (f x).b l v
def tot {α:Type} (f:α→Bd):List α→Int
 | []=>0
 | x :: l=>(f x).m+tot f l
variable {α:Type} {f:α→Bd}
theorem tot_app:∀ (l m:List α),tot f (l ++ m)=tot f l+tot f m
 | [],m=>by simp [tot]
 | x :: l,m=>by
  show (f x).m+tot f (l ++ m)=(f x).m+tot f l+tot f m
  rw [tot_app l m];omega
theorem zBl:∀ {l m:List α} {u v:Nat},Pth f u (l ++ m) v ↔ ∃ w,Pth f u l w∧Pth f w m v
 | [],m,u,v=>⟨fun h=>⟨u,rfl,h⟩,fun ⟨w,h1,h2⟩=>by cases h1;exact h2⟩
 | x :: l,m,u,v=>by
  constructor
  ·rintro ⟨h1,h2⟩
   obtain ⟨w,h3,h4⟩:=zBl.1 h2
   exact ⟨w,⟨h1,h3⟩,h4⟩
  ·rintro ⟨w,⟨h1,h3⟩,h4⟩
   exact ⟨h1,zBl.2 ⟨w,h3,h4⟩⟩
theorem pth_last {l:List α} {x:α} {u v:Nat} (h:Pth f u (l ++ [x]) v):(f x).b=v:=by
 obtain ⟨w,_,h2⟩:=zBl.1 h
 exact h2.2
theorem dup_split (g:α→Nat):∀ {l:List α},¬ (l.map g).Nodup → ∃ A x B y C,l=A ++ x :: (B ++ y :: C)∧g x=g y
 | [],h=>absurd List.nodup_nil h
 | a :: t,h=>by
  by_cases hm:g a∈t.map g
  ·obtain ⟨y,hy,e⟩:=List.mem_map.1 hm
   obtain ⟨B,C,rfl⟩:=List.append_of_mem hy
   exact ⟨[],a,B,y,C,rfl,e.symm⟩
  ·have:¬ (t.map g).Nodup:=fun hn=>h (by rw [List.map_cons,List.nodup_cons];exact ⟨hm,hn⟩)
   obtain ⟨A,x,B,y,C,rfl,e⟩:=dup_split g this
   exact ⟨a :: A,x,B,y,C,rfl,e⟩
structure Simple (f:α→Bd) (l:List α):Prop where
 ne:l≠[]
 closed:∃ u,Pth f u l u
 once:(l.map fun x=>(f x).b).Nodup
theorem mean_or {a b p q:Int} (hp:0<p) (hq:0<q):a * (p+q)≤(a+b) * p∨b * (p+q)≤(a+b) * q:=by
 have h1:(a+b) * p - a * (p+q)=b * p - a * q:=by rw [Int.add_mul,Int.mul_add];omega
 have h2:(a+b) * q - b * (p+q)=a * q - b * p:=by rw [Int.add_mul,Int.mul_add];omega
 rcases Int.le_total (a * q) (b * p) with h | h
 ·left;omega
 ·right;omega
theorem mean_trans {m p t P l L:Int} (hP:0<P) (hm:0≤m) (hL:0≤L) (h1:t * P≤p * m) (h2:p * L≤l * P):t * L≤l * m:=by
 have a1:t * P * L≤p * m * L:=qQ h1 hL
 have a2:p * L * m≤l * P * m:=qQ h2 hm
 have e1:p * m * L=p * L * m:=by rw [qV,Int.mul_comm m L,← qV]
 have e2:t * P * L=t * L * P:=by rw [qV,Int.mul_comm P L,← qV]
 have e3:l * P * m=l * m * P:=by rw [qV,Int.mul_comm P m,← qV]
 rw [e1] at a1
 rw [e2] at a1
 rw [e3] at a2
 exact Int.le_of_mul_le_mul_right (yQ a1 a2) hP
theorem simple_in (f:α→Bd):∀ (n:Nat) (l:List α),l.length=n→l≠[]→(∃ u,Pth f u l u) → ∃ m,Simple f m∧m.length≤l.length∧(∀ x∈m,x∈l)∧tot f m * l.length≤tot f l * m.length:=by
 intro n
 induction n using Nat.strongRecOn with
 | ind n ih =>
  intro l hn hne ⟨u,hu⟩
  by_cases hs:(l.map fun x=>(f x).b).Nodup
  ·exact ⟨l,⟨hne,⟨u,hu⟩,hs⟩,zM _,fun x h=>h,qZ _⟩
  obtain ⟨A,x,B,y,C,rfl,e⟩:=dup_split _ hs
  have hl:(A ++ x :: (B ++ y :: C))=(A ++ [x]) ++ ((B ++ [y]) ++ C):=by simp
  rw [hl] at hu
  obtain ⟨w1,p1,p2⟩:=zBl.1 hu
  obtain ⟨w2,p3,p4⟩:=zBl.1 p2
  have e1:=pth_last p1
  have e2:=pth_last p3
  have ew:w2=w1:=by rw [← e1,← e2];exact e.symm
  subst ew
  have hQ:Pth f u ((A ++ [x]) ++ C) u:=zBl.2 ⟨w2,p1,p4⟩
  have lP:(B ++ [y]).length=B.length+1:=by simp
  have lQ:((A ++ [x]) ++ C).length=A.length+1+C.length:=by simp;omega
  have lL:(A ++ x :: (B ++ y :: C)).length=(B ++ [y]).length+((A ++ [x]) ++ C).length:=by simp;omega
  have tL:tot f (A ++ x :: (B ++ y :: C))=tot f (B ++ [y])+tot f ((A ++ [x]) ++ C):=by
   rw [hl,tot_app (A ++ [x]) _,tot_app (B ++ [y]) C,tot_app (A ++ [x]) C];omega
  have key:∀ P:List α,P≠[]→(∃ u,Pth f u P u)→P.length<n→(∀ z∈P,z∈A ++ x :: (B ++ y :: C))→tot f P * (A ++ x :: (B ++ y :: C)).length≤tot f (A ++ x :: (B ++ y :: C)) * P.length →
    ∃ m,Simple f m∧m.length≤(A ++ x :: (B ++ y :: C)).length∧(∀ x'∈m,x'∈A ++ x :: (B ++ y :: C))∧tot f m * (A ++ x :: (B ++ y :: C)).length≤tot f (A ++ x :: (B ++ y :: C)) * m.length:=by
   intro P hP hc hlt hin hmean
   obtain ⟨m,h1,h2,h3,h4⟩:=ih P.length hlt P rfl hP hc
   have hpos:0<P.length:=List.length_pos_iff.2 hP
   exact ⟨m,h1,by omega,fun z hz=>hin z (h3 z hz),mean_trans (by omega:(0:Int)<P.length) (by omega) (by omega) h4 hmean⟩
  rcases mean_or (a:=tot f (B ++ [y])) (b:=tot f ((A ++ [x]) ++ C)) (p:=(B ++ [y]).length) (q:=((A ++ [x]) ++ C).length) (by omega) (by omega) with h | h
  ·refine key (B ++ [y]) (by simp) ⟨w2,p3⟩ (by omega) (fun z hz => ?_) ?_
   ·simp only [List.mem_append,yM,yA,or_false] at hz ⊢
    rcases hz with hz | hz
    ·exact .inr (.inr (.inl hz))
    ·exact .inr (.inr (.inr (.inl hz)))
   ·rw [lL,tL,Int.natCast_add];exact h
  ·refine key ((A ++ [x]) ++ C) (by simp) ⟨u,hQ⟩ (by omega) (fun z hz => ?_) ?_
   ·simp only [List.mem_append,yM,yA,or_false] at hz ⊢
    rcases hz with (hz | hz) | hz
    ·exact .inl hz
    ·exact .inr (.inl hz)
    ·exact .inr (.inr (.inr (.inr hz)))
   ·rw [lL,tL,Int.natCast_add];exact h
theorem simple_neg {l:List α} (hne:l≠[]) (hc:∃ u,Pth f u l u) (ht:tot f l<0):∃ m,Simple f m∧m.length≤l.length∧(∀ x∈m,x∈l)∧tot f m<0:=by
 obtain ⟨m,h1,h2,h3,h4⟩:=simple_in f l.length l rfl hne hc
 refine ⟨m,h1,h2,h3, ?_⟩
 have p1:0<m.length:=List.length_pos_iff.2 h1.ne
 have p2:0<l.length:=List.length_pos_iff.2 hne
 have p3:tot f l * m.length<0:=Int.mul_neg_of_neg_of_pos ht (by omega)
 have p4:tot f m * l.length<0:=by omega
 exact Int.not_le.1 fun h=>by
  have:=yI h (by omega:(0:Int)≤l.length)
  omega
theorem nodup_len:∀ (n:Nat) (l:List Nat),l.Nodup→(∀ x∈l,x<n)→l.length≤n:=by
 intro n
 induction n with
 | zero =>
  intro l _ h
  cases l with
  | nil=>simp
  | cons a l=>exact absurd (h a zP) (qU _)
 | succ n ih =>
  intro l hn h
  have h1:=ih (l.erase n) (hn.erase n) fun x hx=>by
   have hm:=List.mem_of_mem_erase hx
   have:=h x hm
   have hne:x≠n:=fun e=>by
    subst e
    exact (List.Nodup.not_mem_erase hn) hx
   omega
  by_cases hm:n∈l
  ·rw [List.length_erase_of_mem hm] at h1
   have:=List.length_pos_of_mem hm
   omega
  ·rw [List.erase_of_not_mem hm] at h1;omega
theorem Simple.short {l:List α} (h:Simple f l) {n:Nat} (hb:∀ x∈l,(f x).b<n):l.length≤n:=by
 have:=nodup_len n _ h.once fun x hx=>by
  obtain ⟨y,hy,rfl⟩:=List.mem_map.1 hx
  exact hb y hy
 simpa using this
theorem Simple.two {l:List α} (h:Simple f l) (hx:∀ x∈l,(f x).a≠(f x).b):2≤l.length:=by
 obtain ⟨u,hu⟩:=h.closed
 match l,h.ne,hu,hx with
 | [x],_,hu,hx=>exact absurd (hu.1.trans hu.2.symm) (hx x zP)
 | x :: y :: l,_,_,_=>simp
end Go.Wk
end
section
namespace Go.Lv
open Go.Fw Go.Wk
def far:Int:=1099511627776
theorem zCt:(0:Int)<far:=by decide
def big:Int:=20000
def clo (n:Nat) (cs:List Bd):Option Mat:=closed far n (cs.foldl addc (base far n))
abbrev Oks (n:Nat) (cs:List Bd):Prop:=∀ c∈cs,c.Ok big big n
theorem zBq (n:Nat):Good far big big n (base far n):=Good.base (by decide) (by decide) (by decide)
theorem pow_far {n:Nat} (hn:n≤8):(2:Int) ^ (n+1) * big<far:=by
 have h1:(2:Int) ^ (n+1)≤2 ^ 9:=pow_le (by decide) _ (by omega)
 have h2:(2:Int) ^ 9=512:=by decide
 have h3:far=1099511627776:=rfl
 have h4:big=20000:=rfl
 rw [h4];omega
theorem clo_some {n:Nat} (hn:n≤8) {cs:List Bd} (hcs:Oks n cs) {V:Mat} (h:clo n cs=some V):Closed far n (cs.foldl addc (base far n)) V:=
 let g:=(zBq n).fold hcs
 closed_some g.sq g.diag (by decide) (pow_far hn) g.small h
theorem clo_mem {n:Nat} (hn:n≤8) {cs:List Bd} (hcs:Oks n cs) {V:Mat} (h:clo n cs=some V) {c:Bd} (hc:c∈cs):ent V c.a c.b≤c.m∧ent V c.a c.b<far:=by
 have h1:=(clo_some hn hcs h).le c.a c.b
 have h2:=fold_mem (zBq n).sq (fun c hc=>⟨(hcs c hc).a,(hcs c hc).b⟩) c hc
 have h3:=(hcs c hc).high
 have h4:big<far:=by decide
 omega
def Real (cs:List Bd) (n:Nat) (W:Mat):Prop:=∀ i j,i<n→j<n→ent W i j<far → ∃ l:List Bd,(∀ x∈l,x∈cs)∧Pth id i l j∧tot id l=ent W i j
theorem real_base (cs:List Bd) (n:Nat):Real cs n (base far n):=fun i j hi hj h=>by
 rw [ent_base hi hj] at h ⊢
 by_cases e:i=j
 ·rw [if_pos e];exact ⟨[],fun x hx=>(by cases hx),e,rfl⟩
 ·rw [if_neg e] at h;omega
theorem zEo {cs:List Bd} {n:Nat}:∀ {ds:List Bd} {W:Mat},(∀ c∈ds,c∈cs)→(∀ c∈ds,c.a<n∧c.b<n)→Sq n W→Real cs n W→Real cs n (ds.foldl addc W)
 | [],W,_,_,_,h=>h
 | d :: ds,W,hin,hb,hs,h=>by
  have h1:=hb d zP
  show Real cs n (ds.foldl addc (addc W d))
  refine zEo (ds:=ds) (W:=addc W d) (fun c hc=>hin c (zR _ hc)) (fun c hc=>hb c (zR _ hc)) (hs.put _ _ _) fun i j hi hj hlt => ?_
  rw [ent_addc hs h1.1 h1.2] at hlt ⊢
  by_cases g:i=d.a∧j=d.b
  ·rw [if_pos g] at hlt ⊢
   rcases Int.le_total (ent W d.a d.b) d.m with q | q
   ·rw [Int.min_eq_left q] at hlt ⊢
    rw [← g.1,← g.2] at hlt ⊢
    exact h i j hi hj hlt
   ·rw [Int.min_eq_right q]
    exact ⟨[d],fun x hx=>by rw [yP] at hx;subst hx;exact hin _ zP,⟨g.1.symm,g.2.symm⟩,by simp [tot]⟩
  ·rw [if_neg g] at hlt ⊢
   exact h i j hi hj hlt
theorem real_upd {cs:List Bd} {n:Nat} {W:Mat} (h:Real cs n W) (hs:Sq n W) {a b c:Nat} (ha:a<n) (hb:b<n) (hc:c<n):Real cs n (upd far c a W b):=fun i j hi hj hlt=>by
 rw [ent_upd hs ha hb] at hlt ⊢
 by_cases g:(i=a∧j=b)∧ent W a c<far∧ent W c b<far
 ·rw [if_pos g] at hlt ⊢
  obtain ⟨⟨rfl,rfl⟩,g1,g2⟩:=g
  rcases Int.le_total (ent W i j) (ent W i c+ent W c j) with q | q
  ·rw [Int.min_eq_left q] at hlt ⊢;exact h i j hi hj hlt
  ·rw [Int.min_eq_right q]
   obtain ⟨l1,p1,p2,p3⟩:=h i c hi hc g1
   obtain ⟨l2,q1,q2,q3⟩:=h c j hc hj g2
   refine ⟨l1 ++ l2,fun x hx => ?_,zBl.2 ⟨c,p2,q2⟩,by rw [tot_app,p3,q3]⟩
   rcases List.mem_append.1 hx with hx | hx
   ·exact p1 x hx
   ·exact q1 x hx
 ·rw [if_neg g] at hlt ⊢
  exact h i j hi hj hlt
theorem real_upto {cs:List Bd} {n:Nat} {W:Mat} (h:Real cs n W) (hs:Sq n W) {k:Nat} (hk:k≤n):Real cs n (upto far n k W):=
 (fold_ind (fun _ w=>Sq n w∧Real cs n w) _ _ k ⟨hs,h⟩ fun c hc w hw=>fold_ind (fun _ w=>Sq n w∧Real cs n w) _ _ n hw fun a ha w hw =>
  fold_ind (fun _ w=>Sq n w∧Real cs n w) _ _ n hw fun b hb w hw=>⟨hw.1.upd _ _ _ _,real_upd hw.2 hw.1 ha hb (by omega)⟩).2
theorem clo_none {n:Nat} {cs:List Bd} (hcs:Oks n cs) (h:clo n cs=none):∃ m:List Bd,Simple id m∧(∀ x∈m,x∈cs)∧tot id m<0:=by
 have hg:=(zBq n).fold hcs
 have hr:Real cs n (upto far n n (cs.foldl addc (base far n))):=real_upto (zEo (fun c hc=>hc) (fun c hc=>⟨(hcs c hc).a,(hcs c hc).b⟩) (zBq n).sq (real_base cs n)) hg.sq (zM n)
 unfold clo closed at h
 split at h
 ·cases h
 ·rename_i hn
  rw [yG] at hn
  obtain ⟨i,hi⟩:=Classical.not_forall.1 hn
  obtain ⟨hi1,hi2⟩:=Classical.not_imp.1 hi
  rw [decide_eq_true_iff] at hi2
  have hi':=List.mem_range.1 hi1
  obtain ⟨l,p1,p2,p3⟩:=hr i i hi' hi' (by have:=zCt;omega)
  have hne:l≠[]:=fun e=>by
   subst e
   simp [tot] at p3;omega
  obtain ⟨m,q1,_,q3,q4⟩:=simple_neg hne ⟨i,p2⟩ (by omega)
  exact ⟨m,q1,fun x hx=>p1 x (q3 x hx),q4⟩
structure Clos (n:Nat) (cs:List Bd) (V:Mat):Prop where
 oks:Oks n cs
 diag:∀ i,i<n→ent V i i=0
 tri:∀ i k j,i<n→k<n→j<n→ent V i k<far→ent V k j<far→ent V i j≤ent V i k+ent V k j∧ent V i j<far
 mem:∀ c∈cs,ent V c.a c.b≤c.m∧ent V c.a c.b<far
 real:Real cs n V
theorem clo_real {n:Nat} {cs:List Bd} (hcs:Oks n cs) {V:Mat} (h:clo n cs=some V):Real cs n V:=by
 have hV:V=upto far n n (cs.foldl addc (base far n)):=by
  unfold clo closed at h
  split at h
  ·cases h;rfl
  ·cases h
 rw [hV]
 exact real_upto (zEo (fun c hc=>hc) (fun c hc=>⟨(hcs c hc).a,(hcs c hc).b⟩) (zBq n).sq (real_base cs n)) ((zBq n).fold hcs).sq (zM n)
theorem clo_clos {n:Nat} (hn:n≤8) {cs:List Bd} (hcs:Oks n cs) {V:Mat} (h:clo n cs=some V):Clos n cs V:=
 let hc:=clo_some hn hcs h
 ⟨hcs,hc.diag,hc.tri,fun c hc'=>clo_mem hn hcs h hc',clo_real hcs h⟩
variable {n:Nat} {cs:List Bd} {V:Mat}
theorem Clos.walk (h:Clos n cs V):∀ (l:List Bd) (i j:Nat),(∀ x∈l,x∈cs)→i<n→Pth id i l j→j<n∧ent V i j<far∧ent V i j≤tot id l
 | [],i,j,_,hi,hp=>by
  cases hp
  rw [h.diag i hi]
  exact ⟨hi,zCt,qZ _⟩
 | x :: l,i,j,hin,hi,hp=>by
  have hx:=hin x zP
  have ho:=h.oks x hx
  obtain ⟨h1,h2⟩:=h.mem x hx
  obtain ⟨e,hp⟩:=hp
  obtain ⟨g1,g2,g3⟩:=Clos.walk h l x.b j (fun y hy=>hin y (zR _ hy)) ho.b hp
  have e':x.a=i:=e
  subst e'
  have t:=h.tri x.a x.b j hi ho.b g1 h2 g2
  refine ⟨g1,t.2, ?_⟩
  show _≤x.m+tot id l
  omega
theorem Clos.le {cs':List Bd} {V':Mat} (h:Clos n cs V) (h':Clos n cs' V') (hin:∀ c∈cs,c∈cs') {i j:Nat} (hi:i<n) (hj:j<n) (hf:ent V i j<far):ent V' i j≤ent V i j∧ent V' i j<far:=by
 obtain ⟨l,p1,p2,p3⟩:=h.real i j hi hj hf
 have:=h'.walk l i j (fun x hx=>hin x (p1 x hx)) hi p2
 exact ⟨by omega,this.2.1⟩
abbrev Holds (cs:List Bd) (x:Nat→Int):Prop:=∀ c∈cs,c.holds x
theorem clo_unheld (hcs:Oks n cs) (h:clo n cs=none) (x:Nat→Int):¬ Holds cs x:=fun hx =>
 closed_none ((zBq n).fold hcs).sq zCt h x ((obeys_fold (by decide) x (zBq n) hcs).2 ⟨obeys_base _ _ _,hx⟩)
theorem walk_held {x:Nat→Int} (hx:Holds cs x):∀ {l:List Bd} {i j:Nat},(∀ c∈l,c∈cs)→Pth id i l j→x j - x i≤tot id l
 | [],i,j,_,hp=>by cases hp;simp [tot]
 | c :: l,i,j,hin,hp=>by
  obtain ⟨e,hp⟩:=hp
  have e':c.a=i:=e
  subst e'
  have h1:=walk_held hx (fun d hd=>hin d (zR _ hd)) hp
  have h2:x c.b - x c.a≤c.m:=hx c (hin c zP)
  have h3:x j - x c.b≤tot id l:=h1
  show x j - x c.a≤c.m+tot id l
  omega
theorem Clos.most (h:Clos n cs V) {x:Nat→Int} (hx:Holds cs x) {i j:Nat} (hi:i<n) (hj:j<n) (hf:ent V i j<far):x j - x i≤ent V i j:=by
 obtain ⟨l,p1,p2,p3⟩:=h.real i j hi hj hf
 rw [← p3];exact walk_held hx p1 p2
def Both (cs:List Bd):Prop:=∀ c∈cs,∃ d∈cs,d.a=c.b∧d.b=c.a
def bas (V:Mat) (j:Nat):Nat:=((List.range j).find? fun b=>decide (ent V b j<far)).getD j
theorem bas_le (V:Mat) (j:Nat):bas V j≤j:=by
 unfold bas
 cases h:(List.range j).find? fun b=>decide (ent V b j<far) with
 | none=>exact zM _
 | some b=>have:=List.mem_range.1 (List.mem_of_find?_eq_some h);simp;omega
theorem bas_far {V:Mat} {j:Nat} (hd:ent V j j=0):ent V (bas V j) j<far:=by
 unfold bas
 cases h:(List.range j).find? fun b=>decide (ent V b j<far) with
 | none=>show ent V j j<far;rw [hd];exact zCt
 | some b =>
  have:=List.find?_some h
  show ent V b j<far
  exact of_decide_eq_true this
theorem bas_least {V:Mat} {j b:Nat} (hb:ent V b j<far):bas V j≤b:=by
 unfold bas
 cases h:(List.range j).find? fun b=>decide (ent V b j<far) with
 | none =>
  show j≤b
  refine Nat.le_of_not_lt fun hlt => ?_
  have:=List.find?_eq_none.1 h b (List.mem_range.2 hlt)
  exact this (decide_eq_true hb)
 | some d =>
  show d≤b
  refine Nat.le_of_not_lt fun hlt => ?_
  obtain ⟨_,us,bs,e,hno⟩:=List.find?_eq_some_iff_append.1 h
  have hbj:b<j:=by
   have:=List.mem_range.1 (List.mem_of_find?_eq_some h);omega
  have hmem:b∈List.range j:=List.mem_range.2 hbj
  rw [e] at hmem
  rcases List.mem_append.1 hmem with hm | hm
  ·have:=hno b hm
   rw [decide_eq_true hb] at this;cases this
  ·have hs:(us ++ d :: bs).Pairwise (· < ·):=by rw [← e];exact List.pairwise_lt_range
   have:=(List.pairwise_append.1 hs).2.1
   rcases List.mem_cons.1 hm with rfl | hm
   ·omega
   ·have:=(List.pairwise_cons.1 this).1 b hm;omega
theorem Clos.sym (h:Clos n cs V) (hb:Both cs) {i j:Nat} (hi:i<n) (hj:j<n) (hf:ent V i j<far):ent V j i<far:=by
 obtain ⟨l,p1,p2,_⟩:=h.real i j hi hj hf
 have back:∀ (l:List Bd) (u v:Nat),(∀ x∈l,x∈cs)→Pth id u l v → ∃ m:List Bd,(∀ x∈m,x∈cs)∧Pth id v m u:=by
  intro l
  induction l with
  | nil=>intro u v _ hp;cases hp;exact ⟨[],fun x hx=>(by cases hx),rfl⟩
  | cons x l ih =>
   intro u v hin hp
   obtain ⟨e,hp⟩:=hp
   obtain ⟨m,m1,m2⟩:=ih _ v (fun y hy=>hin y (zR _ hy)) hp
   obtain ⟨d,d1,d2,d3⟩:=hb x (hin x zP)
   refine ⟨m ++ [d],fun y hy => ?_,zBl.2 ⟨x.b,m2,d2, ?_⟩⟩
   ·rcases List.mem_append.1 hy with hy | hy
    ·exact m1 y hy
    ·rw [yP] at hy;subst hy;exact d1
   ·show d.b=u
    rw [d3];exact e
 obtain ⟨m,m1,m2⟩:=back l i j p1 p2
 exact (h.walk m j i m1 hj m2).2.1
theorem Clos.bas_eq (h:Clos n cs V) (hb:Both cs) {i j:Nat} (hi:i<n) (hj:j<n) (hf:ent V i j<far):bas V i=bas V j:=by
 have hf':=h.sym hb hi hj hf
 have b1:=bas_le V i
 have b2:=bas_le V j
 have f1:=bas_far (h.diag i hi)
 have f2:=bas_far (h.diag j hj)
 have t1:=(h.tri (bas V i) i j (by omega) hi hj f1 hf).2
 have t2:=(h.tri (bas V j) j i (by omega) hj hi f2 hf').2
 have l1:=bas_least t1
 have l2:=bas_least t2
 omega
theorem Clos.high (h:Clos n cs V) (hb:Both cs):Holds cs fun j=>ent V (bas V j) j:=fun c hc=>by
 have ho:=h.oks c hc
 obtain ⟨m1,m2⟩:=h.mem c hc
 have e:=h.bas_eq hb ho.a ho.b m2
 have hle:=bas_le V c.a
 have hf:=bas_far (h.diag c.a ho.a)
 have t:=(h.tri (bas V c.a) c.a c.b (by have:=ho.a;omega) ho.a ho.b hf m2).1
 show ent V (bas V c.b) c.b - ent V (bas V c.a) c.a≤c.m
 rw [← e];omega
theorem Clos.low (h:Clos n cs V) (hb:Both cs):Holds cs fun j => -ent V j (bas V j):=fun c hc=>by
 have ho:=h.oks c hc
 obtain ⟨m1,m2⟩:=h.mem c hc
 have e:=h.bas_eq hb ho.a ho.b m2
 have hle:=bas_le V c.b
 have hlt:bas V c.b<n:=by have:=ho.b;omega
 have hf:=h.sym hb hlt ho.b (bas_far (h.diag c.b ho.b))
 have t:=(h.tri c.a c.b (bas V c.b) ho.a ho.b hlt m2 hf).1
 show -ent V c.b (bas V c.b) - -ent V c.a (bas V c.a)≤c.m
 rw [e];omega
theorem clo_held (hn:n≤8) (hcs:Oks n cs) (hb:Both cs):(clo n cs).isSome=true ↔ ∃ x,Holds cs x:=by
 cases h:clo n cs with
 | none=>exact ⟨fun e=>(by cases e),fun ⟨x,hx⟩=>(clo_unheld hcs h x hx).elim⟩
 | some V=>exact ⟨fun _=>⟨_,(clo_clos hn hcs h).high hb⟩,fun _=>rfl⟩
theorem short_walk {α:Type} (f:α→Bd):∀ (n:Nat) (l:List α) (i j:Nat),l.length=n→Pth f i l j → ∃ m:List α,(∀ x∈m,x∈l)∧Pth f i m j∧(m.map fun x=>(f x).b).Nodup:=by
 intro n
 induction n using Nat.strongRecOn with
 | ind n ih =>
  intro l i j hn hp
  by_cases hs:(l.map fun x=>(f x).b).Nodup
  ·exact ⟨l,fun x h=>h,hp,hs⟩
  obtain ⟨A,x,B,y,C,rfl,e⟩:=dup_split _ hs
  have hl:(A ++ x :: (B ++ y :: C))=(A ++ [x]) ++ ((B ++ [y]) ++ C):=by simp
  rw [hl] at hp
  obtain ⟨w1,p1,p2⟩:=zBl.1 hp
  obtain ⟨w2,p3,p4⟩:=zBl.1 p2
  have e1:=pth_last p1
  have e2:=pth_last p3
  have ew:w2=w1:=by rw [← e1,← e2];exact e.symm
  subst ew
  obtain ⟨m,m1,m2,m3⟩:=ih ((A ++ [x]) ++ C).length (by rw [← hn];simp;omega) ((A ++ [x]) ++ C) i j rfl (zBl.2 ⟨w2,p1,p4⟩)
  refine ⟨m,fun z hz => ?_,m2,m3⟩
  have:=m1 z hz
  simp only [List.mem_append,yM,yA,or_false] at this ⊢
  rcases this with (hz | hz) | hz
  ·exact .inl hz
  ·exact .inr (.inl hz)
  ·exact .inr (.inr (.inr (.inr hz)))
theorem tot_le {α:Type} {f:α→Bd} {M:Int}:∀ {l:List α},(∀ x∈l,(f x).m≤M)→tot f l≤M * l.length
 | [],_=>by simp [tot]
 | x :: l,h=>by
  have h1:=h x zP
  have h2:=tot_le fun y hy=>h y (zR _ hy)
  show (f x).m+tot f l≤M * (l.length+1:Nat)
  rw [Int.natCast_add,Int.mul_add];omega
theorem Clos.top {n:Nat} {cs:List Bd} {V:Mat} (h:Clos n cs V) {M:Int} (hM:0≤M) (hm:∀ c∈cs,c.m≤M) {i j:Nat} (hi:i<n) (hj:j<n) (hf:ent V i j<far):ent V i j≤M * n:=by
 obtain ⟨l,p1,p2,_⟩:=h.real i j hi hj hf
 obtain ⟨m,m1,m2,m3⟩:=short_walk id l.length l i j rfl p2
 have hlen:m.length≤n:=by
  have:=nodup_len n _ m3 fun x hx=>by
   obtain ⟨y,hy,rfl⟩:=List.mem_map.1 hx
   exact (h.oks y (p1 y (m1 y hy))).b
  simpa using this
 have h1:=(h.walk m i j (fun x hx=>p1 x (m1 x hx)) hi m2).2.2
 have h2:tot id m≤M * m.length:=tot_le fun x hx=>hm x (p1 x (m1 x hx))
 have h3:M * m.length≤M * n:=Int.mul_le_mul_of_nonneg_left (by omega) hM
 omega
theorem Clos.neg {n:Nat} {cs:List Bd} {V:Mat} (h:Clos n cs V) {i j:Nat} (hi:i<n) (hj:j<n) (hf:ent V i j<far) (hf2:ent V j i<far):-ent V j i≤ent V i j:=by
 have:=(h.tri i j i hi hj hi hf hf2).1
 rw [h.diag i hi] at this
 omega
structure Sight where
 frm:Int
 to:Int
 rise:Int
 off:Int
 deriving DecidableEq
structure Survey where
 stations:Int
 sights:List Sight
 deriving DecidableEq
def inB (x lo hi:Int):Bool:=decide (x ≥ lo) && decide (x≤hi)
theorem inB_iff {x lo hi:Int}:inB x lo hi=true↔lo≤x∧x≤hi:=by
 unfold inB;rw [zT,decide_eq_true_iff,decide_eq_true_iff]
structure SightOk (n:Int) (x:Sight):Prop where
 frm:0≤x.frm∧x.frm<n
 to:0≤x.to∧x.to<n
 ne:x.frm≠x.to
 rise:-1000≤x.rise∧x.rise≤1000
 off:0≤x.off∧x.off≤50
structure Sw (s:Survey):Prop where
 st:2≤s.stations∧s.stations≤8
 sights:∀ x∈s.sights,SightOk s.stations x
structure Sv (s:Survey):Prop extends Sw s where
 many:s.sights.length≤14
def sightD (by' off:Int) (x:Sight):List Bd:=[⟨x.frm.toNat,x.to.toNat,x.rise * by'+off⟩,⟨x.to.toNat,x.frm.toNat,off - x.rise * by'⟩]
def sightB (x:Sight):List Bd:=[⟨x.frm.toNat,x.to.toNat,x.rise+x.off⟩,⟨x.to.toNat,x.frm.toNat,x.off - x.rise⟩]
def surveyB (s:Survey):List Bd:=s.sights.flatMap sightB
theorem zBm {s:Survey} {c:Bd}:c∈surveyB s ↔ ∃ x∈s.sights,c=⟨x.frm.toNat,x.to.toNat,x.rise+x.off⟩∨c=⟨x.to.toNat,x.frm.toNat,x.off - x.rise⟩:=by
 unfold surveyB sightB
 simp only [List.mem_flatMap,yM,yA,or_false]
abbrev num (s:Survey):Nat:=s.stations.toNat
theorem Sw.num8 {s:Survey} (h:Sw s):num s≤8:=by have:=h.st;show s.stations.toNat≤8;omega
theorem sight_bd {n:Int} {x:Sight} (h:SightOk n x):∀ c∈sightB x,c.a<n.toNat∧c.b<n.toNat∧c.a≠c.b ∧ -1050≤c.m∧c.m≤1050:=fun c hc=>by
 have h1:=h.frm;have h2:=h.to;have h3:=h.ne;have h4:=h.rise;have h5:=h.off
 unfold sightB at hc
 simp only [yM,yA,or_false] at hc
 rcases hc with rfl | rfl
 ·exact ⟨by show x.frm.toNat<_;omega,by show x.to.toNat<_;omega,by show x.frm.toNat≠x.to.toNat;omega,by show -1050≤x.rise+x.off;omega,by show x.rise+x.off≤1050;omega⟩
 ·exact ⟨by show x.to.toNat<_;omega,by show x.frm.toNat<_;omega,by show x.to.toNat≠x.frm.toNat;omega,by show -1050≤x.off - x.rise;omega,by show x.off - x.rise≤1050;omega⟩
theorem Sw.bd {s:Survey} (h:Sw s):∀ c∈surveyB s,c.a<num s∧c.b<num s∧c.a≠c.b ∧ -1050≤c.m∧c.m≤1050:=fun c hc=>by
 obtain ⟨x,hx,hc⟩:=List.mem_flatMap.1 hc
 exact sight_bd (h.sights x hx) c hc
theorem Sw.oks {s:Survey} (h:Sw s):Oks (Lv.num s) (surveyB s):=fun c hc=>by
 obtain ⟨h1,h2,h3,h4,h5⟩:=h.bd c hc
 exact ⟨h1,h2,h3,by show -20000≤c.m;omega,by show c.m≤20000;omega⟩
theorem survey_both (s:Survey):Both (surveyB s):=fun c hc=>by
 obtain ⟨x,hx,rfl | rfl⟩:=zBm.1 hc
 ·exact ⟨⟨x.to.toNat,x.frm.toNat,x.off - x.rise⟩,zBm.2 ⟨x,hx,.inr rfl⟩,rfl,rfl⟩
 ·exact ⟨⟨x.frm.toNat,x.to.toNat,x.rise+x.off⟩,zBm.2 ⟨x,hx,.inl rfl⟩,rfl,rfl⟩
def knownV (s:Survey):Option Mat:=clo (num s) (surveyB s)
def possS (s:Survey):Bool:=(knownV s).isSome
theorem zBv {s:Survey} (h:Sw s) {V:Mat} (hV:knownV s=some V):Clos (num s) (surveyB s) V:=clo_clos h.num8 h.oks hV
theorem known_sym {s:Survey} (h:Sw s) {V:Mat} (hV:knownV s=some V) {i j:Nat} (hi:i<num s) (hj:j<num s) (hf:ent V i j<far):ent V j i<far:=(zBv h hV).sym (survey_both s) hi hj hf
theorem known_bd {s:Survey} (h:Sw s) {V:Mat} (hV:knownV s=some V) {i j:Nat} (hi:i<num s) (hj:j<num s) (hf:ent V i j<far):-8400≤ent V i j∧ent V i j≤8400:=by
 have hn:=h.num8
 have hc:=zBv h hV
 have h1:=hc.top (M:=1050) (by decide) (fun c hc=>(h.bd c hc).2.2.2.2) hi hj hf
 have hf2:=known_sym h hV hi hj hf
 have h2:=hc.top (M:=1050) (by decide) (fun c hc=>(h.bd c hc).2.2.2.2) hj hi hf2
 have h3:=hc.neg hi hj hf hf2
 have:(1050:Int) * (num s:Nat)≤8400:=by omega
 omega
def Fit (s:Survey) (x:Nat→Int):Prop:=∀ y∈s.sights,y.rise - y.off≤x y.to.toNat - x y.frm.toNat∧x y.to.toNat - x y.frm.toNat≤y.rise+y.off
theorem zEp (s:Survey) (x:Nat→Int):Fit s x↔Holds (surveyB s) x:=by
 constructor
 ·intro h c hc
  obtain ⟨y,hy,rfl | rfl⟩:=zBm.1 hc
  ·exact (h y hy).2
  ·have:=(h y hy).1
   show x y.frm.toNat - x y.to.toNat≤y.off - y.rise
   omega
 ·intro h y hy
  have h1:x y.to.toNat - x y.frm.toNat≤y.rise+y.off:=h _ (zBm.2 ⟨y,hy,.inl rfl⟩)
  have h2:x y.frm.toNat - x y.to.toNat≤y.off - y.rise:=h _ (zBm.2 ⟨y,hy,.inr rfl⟩)
  omega
theorem poss_fit {s:Survey} (h:Sw s):possS s=true ↔ ∃ x,Fit s x:=by
 unfold possS knownV
 rw [clo_held h.num8 h.oks (survey_both s)]
 exact ⟨fun ⟨x,hx⟩=>⟨x,(zEp s x).2 hx⟩,fun ⟨x,hx⟩=>⟨x,(zEp s x).1 hx⟩⟩
theorem fit_most {s:Survey} (h:Sw s) {V:Mat} (hV:knownV s=some V) {x:Nat→Int} (hx:Fit s x) {i j:Nat} (hi:i<num s) (hj:j<num s) (hf:ent V i j<far):-ent V j i≤x j - x i∧x j - x i≤ent V i j:=by
 have hc:=zBv h hV
 have h1:=hc.most ((zEp s x).1 hx) hi hj hf
 have h2:=hc.most ((zEp s x).1 hx) hj hi (known_sym h hV hi hj hf)
 omega
structure More (n:Nat) (cs cs':List Bd) (f t:Nat) (p q:Int):Prop where
 n8:n≤8
 oks:Oks n cs
 oks':Oks n cs'
 mem:∀ c,c∈cs'↔c∈cs∨c=⟨f,t,p⟩∨c=⟨t,f,q⟩
 pq:0≤p+q
variable {n:Nat} {cs cs':List Bd} {f t:Nat} {p q:Int}
theorem More.fn (h:More n cs cs' f t p q):f<n:=(h.oks' _ ((h.mem ⟨f,t,p⟩).2 (.inr (.inl rfl)))).a
theorem More.tn (h:More n cs cs' f t p q):t<n:=(h.oks' _ ((h.mem ⟨f,t,p⟩).2 (.inr (.inl rfl)))).b
structure Allows (V:Mat) (f t:Nat) (p q:Int):Prop where
 one:ent V t f<far→0≤ent V t f+p
 two:ent V f t<far→0≤ent V f t+q
def Way (V:Mat) (f t:Nat) (p q:Int) (i j:Nat) (v:Int):Prop:=
 (ent V i j<far∧ent V i j≤v)∨(ent V i f<far∧ent V t j<far∧ent V i f+p+ent V t j≤v)∨(ent V i t<far∧ent V f j<far∧ent V i t+q+ent V f j≤v)
theorem more_way (h:More n cs cs' f t p q) {V:Mat} (hc:Clos n cs V) (ha:Allows V f t p q):∀ (l:List Bd) (i j:Nat),(∀ x∈l,x∈cs')→i<n→Pth id i l j→j<n∧Way V f t p q i j (tot id l)
 | [],i,j,_,hi,hp=>by
  cases hp
  refine ⟨hi,.inl ?_⟩
  rw [hc.diag i hi]
  exact ⟨zCt,qZ _⟩
 | x :: l,i,j,hin,hi,hp=>by
  obtain ⟨e,hp⟩:=hp
  have hx':=hin x zP
  have hxb:=(h.oks' x hx').b
  obtain ⟨hj,hw⟩:=more_way h hc ha l x.b j (fun y hy=>hin y (zR _ hy)) hxb hp
  refine ⟨hj, ?_⟩
  have e':x.a=i:=e
  have ht:tot id (x :: l)=x.m+tot id l:=rfl
  rw [ht]
  generalize tot id l=v at *
  have hf:=h.fn
  have htn:=h.tn
  rcases (h.mem x).1 hx' with hx | rfl | rfl
  ·obtain ⟨m1,m2⟩:=hc.mem x hx
   rw [e'] at m1 m2
   rcases hw with ⟨w1,w2⟩ | ⟨w1,w2,w3⟩ | ⟨w1,w2,w3⟩
   ·have tr:=hc.tri i x.b j hi hxb hj m2 w1
    exact .inl ⟨tr.2,by omega⟩
   ·have tr:=hc.tri i x.b f hi hxb hf m2 w1
    exact .inr (.inl ⟨tr.2,w2,by omega⟩)
   ·have tr:=hc.tri i x.b t hi hxb htn m2 w1
    exact .inr (.inr ⟨tr.2,w2,by omega⟩)
  ·have ei:f=i:=e'
   subst ei
   have d:=hc.diag f hi
   rcases hw with ⟨w1,w2⟩ | ⟨w1,w2,w3⟩ | ⟨w1,w2,w3⟩
   ·refine .inr (.inl ⟨by rw [d];exact zCt,w1, ?_⟩)
    show ent V f f+p+ent V t j≤p+v
    have w2':ent V t j≤v:=w2
    omega
   ·have w1':ent V t f<far:=w1
    have w3':ent V t f+p+ent V t j≤v:=w3
    have:=ha.one w1'
    refine .inr (.inl ⟨by rw [d];exact zCt,w2, ?_⟩)
    show ent V f f+p+ent V t j≤p+v
    omega
   ·have d2:=hc.diag t htn
    have w3':ent V t t+q+ent V f j≤v:=w3
    have:=h.pq
    refine .inl ⟨w2, ?_⟩
    show ent V f j≤p+v
    omega
  ·have ei:t=i:=e'
   subst ei
   have d:=hc.diag t hi
   rcases hw with ⟨w1,w2⟩ | ⟨w1,w2,w3⟩ | ⟨w1,w2,w3⟩
   ·refine .inr (.inr ⟨by rw [d];exact zCt,w1, ?_⟩)
    show ent V t t+q+ent V f j≤q+v
    have w2':ent V f j≤v:=w2
    omega
   ·have d2:=hc.diag f hf
    have w3':ent V f f+p+ent V t j≤v:=w3
    have:=h.pq
    refine .inl ⟨w2, ?_⟩
    show ent V t j≤q+v
    omega
   ·have w1':ent V f t<far:=w1
    have w3':ent V f t+q+ent V f j≤v:=w3
    have:=ha.two w1'
    refine .inr (.inr ⟨by rw [d];exact zCt,w2, ?_⟩)
    show ent V t t+q+ent V f j≤q+v
    omega
theorem more_some (h:More n cs cs' f t p q) {V V':Mat} (hc:Clos n cs V) (hc':Clos n cs' V'):Allows V f t p q:=by
 have hf:=h.fn
 have ht:=h.tn
 have m1':ent V' f t≤p∧ent V' f t<far:=hc'.mem _ ((h.mem ⟨f,t,p⟩).2 (.inr (.inl rfl)))
 have m2':ent V' t f≤q∧ent V' t f<far:=hc'.mem _ ((h.mem ⟨t,f,q⟩).2 (.inr (.inr rfl)))
 have sub:∀ {i j:Nat},i<n→j<n→ent V i j<far→ent V' i j≤ent V i j∧ent V' i j<far:=fun {i j} hi hj hlt=>hc.le hc' (fun c hc=>(h.mem c).2 (.inl hc)) hi hj hlt
 refine ⟨fun hlt => ?_,fun hlt => ?_⟩
 ·have s1:=sub ht hf hlt
  have tr:=(hc'.tri t f t ht hf ht s1.2 m1'.2).1
  rw [hc'.diag t ht] at tr
  omega
 ·have s1:=sub hf ht hlt
  have tr:=(hc'.tri f t f hf ht hf s1.2 m2'.2).1
  rw [hc'.diag f hf] at tr
  omega
theorem more_allows (h:More n cs cs' f t p q) {V:Mat} (hc:Clos n cs V):(clo n cs').isSome=true↔Allows V f t p q:=by
 have hf:=h.fn
 have ht:=h.tn
 constructor
 ·intro hs
  cases hV':clo n cs' with
  | none=>rw [hV'] at hs;cases hs
  | some V'=>exact more_some h hc (clo_clos h.n8 h.oks' hV')
 ·intro ha
  cases hV':clo n cs' with
  | some V'=>rfl
  | none =>
   exfalso
   obtain ⟨m,m1,m2,m3⟩:=clo_none h.oks' hV'
   obtain ⟨u,hu⟩:=m1.closed
   have hun:u<n:=by
    match m,m1.ne,hu,m2 with
    | x :: l,_,hu,m2 =>
     have e:x.a=u:=hu.1
     rw [← e];exact (h.oks' x (m2 x zP)).a
   obtain ⟨_,hw⟩:=more_way h hc ha m u u m2 hun hu
   rcases hw with ⟨w1,w2⟩ | ⟨w1,w2,w3⟩ | ⟨w1,w2,w3⟩
   ·rw [hc.diag u hun] at w2;omega
   ·have tr:=hc.tri t u f ht hun hf w2 w1
    have:=ha.one tr.2
    omega
   ·have tr:=hc.tri f u t hf hun ht w2 w1
    have:=ha.two tr.2
    omega
def withM (V:Mat) (f t:Nat) (p q:Int) (i j:Nat):Int:=
 min (min (ent V i j) (if ent V i f<far∧ent V t j<far then ent V i f+p+ent V t j else far)) (if ent V i t<far∧ent V f j<far then ent V i t+q+ent V f j else far)
theorem more_ent (h:More n cs cs' f t p q) {V V':Mat} (hc:Clos n cs V) (hc':Clos n cs' V') {i j:Nat} (hi:i<n) (hj:j<n) (hlt:ent V i j<far):ent V' i j=withM V f t p q i j:=by
 have ha:=more_some h hc hc'
 have hf:=h.fn
 have ht:=h.tn
 have m1:ent V' f t≤p∧ent V' f t<far:=hc'.mem _ ((h.mem ⟨f,t,p⟩).2 (.inr (.inl rfl)))
 have m2:ent V' t f≤q∧ent V' t f<far:=hc'.mem _ ((h.mem ⟨t,f,q⟩).2 (.inr (.inr rfl)))
 have sub:∀ {i j:Nat},i<n→j<n→ent V i j<far→ent V' i j≤ent V i j∧ent V' i j<far:=fun {i j} hi hj hlt=>hc.le hc' (fun c hc=>(h.mem c).2 (.inl hc)) hi hj hlt
 have s0:=sub hi hj hlt
 have up1:ent V i f<far∧ent V t j<far→ent V' i j≤ent V i f+p+ent V t j:=fun ⟨g1,g2⟩=>by
  have a1:=sub hi hf g1
  have a2:=sub ht hj g2
  have t1:=hc'.tri i f t hi hf ht a1.2 m1.2
  have t2:=hc'.tri i t j hi ht hj t1.2 a2.2
  omega
 have up2:ent V i t<far∧ent V f j<far→ent V' i j≤ent V i t+q+ent V f j:=fun ⟨g1,g2⟩=>by
  have a1:=sub hi ht g1
  have a2:=sub hf hj g2
  have t1:=hc'.tri i t f hi ht hf a1.2 m2.2
  have t2:=hc'.tri i f j hi hf hj t1.2 a2.2
  omega
 obtain ⟨l,p1,p2,p3⟩:=hc'.real i j hi hj s0.2
 obtain ⟨_,hw⟩:=more_way h hc ha l i j p1 hi p2
 rw [p3] at hw
 unfold withM
 have lo1:ent V' i j≤if ent V i f<far∧ent V t j<far then ent V i f+p+ent V t j else far:=by
  split
  ·rename_i g;exact up1 g
  ·omega
 have lo2:ent V' i j≤if ent V i t<far∧ent V f j<far then ent V i t+q+ent V f j else far:=by
  split
  ·rename_i g;exact up2 g
  ·omega
 rcases hw with ⟨w1,w2⟩ | ⟨w1,w2,w3⟩ | ⟨w1,w2,w3⟩
 ·omega
 ·rw [if_pos ⟨w1,w2⟩] at lo1 ⊢;omega
 ·have e2:(if ent V i t<far∧ent V f j<far then ent V i t+q+ent V f j else far)=ent V i t+q+ent V f j:=if_pos ⟨w1,w2⟩
  rw [e2] at lo2 ⊢;omega
structure Shape (n:Nat) (V:Mat):Prop where
 sq:Sq n V
 high:∀ i j,i<n→j<n→ent V i j≤far
theorem clo_shape {n:Nat} {cs:List Bd} (hcs:Oks n cs) {V:Mat} (h:clo n cs=some V):Shape n V:=by
 have hg:=(zBq n).fold hcs
 have hV:V=upto far n n (cs.foldl addc (base far n)):=by
  unfold clo closed at h
  split at h
  ·cases h;rfl
  ·cases h
 rw [hV]
 exact ⟨hg.sq.upto far n n,fun i j hi hj=>yQ (upto_le hg.sq far n i j) (hg.high i j hi hj)⟩
structure Lay (n:Nat) (cs ds:List Bd) (V:Mat):Prop where
 n8:n≤8
 clos:Clos n cs V
 shape:Shape n V
 bd:∀ i j,i<n→j<n→ent V i j<far → -big≤ent V i j∧ent V i j≤big
 oks:Oks n ds
variable {n:Nat} {cs ds:List Bd} {V:Mat}
theorem Lay.good (h:Lay n cs ds V):Good far big big n V:=by
 refine ⟨h.shape.sq,h.clos.diag,h.shape.high,fun i j hi hj hlt=>(h.bd i j hi hj hlt).2,fun i j hi hj => ?_⟩
 by_cases g:ent V i j<far
 ·exact (h.bd i j hi hj g).1
 ·have h1:-big≤far:=by decide
  omega
theorem Lay.gds (h:Lay n cs ds V):Good far big big n (ds.foldl addc V):=h.good.fold h.oks
theorem Lay.all (h:Lay n cs ds V):Oks n (cs ++ ds):=fun c hc=>by
 rcases List.mem_append.1 hc with hc | hc
 ·exact h.clos.oks c hc
 ·exact h.oks c hc
theorem Lay.real (h:Lay n cs ds V):Real (cs ++ ds) n (ds.foldl addc V):=by
 refine zEo (fun c hc=>List.mem_append_right _ hc) (fun c hc=>⟨(h.oks c hc).a,(h.oks c hc).b⟩) h.shape.sq fun i j hi hj hlt => ?_
 obtain ⟨l,p1,p2,p3⟩:=h.clos.real i j hi hj hlt
 exact ⟨l,fun x hx=>List.mem_append_left _ (p1 x hx),p2,p3⟩
theorem Lay.some (h:Lay n cs ds V) {W:Mat} (hW:closed far n (ds.foldl addc V)=some W):Clos n (cs ++ ds) W∧Shape n W:=by
 have hg:=h.gds
 have hc:=closed_some hg.sq hg.diag (by decide) (pow_far h.n8) hg.small hW
 have hWe:W=upto far n n (ds.foldl addc V):=by
  unfold closed at hW
  split at hW
  ·cases hW;rfl
  ·cases hW
 have hle:∀ i j,ent (ds.foldl addc V) i j≤ent V i j:=fold_le h.shape.sq fun c hc=>⟨(h.oks c hc).a,(h.oks c hc).b⟩
 refine ⟨⟨h.all,hc.diag,hc.tri,fun c hc' => ?_, ?_⟩,⟨hc.sq,fun i j hi hj=>yQ (hc.le i j) (hg.high i j hi hj)⟩⟩
 ·have h1:=hc.le c.a c.b
  have hb:big<far:=by decide
  rcases List.mem_append.1 hc' with hc' | hc'
  ·have h2:=hle c.a c.b
   have h3:=(h.clos.mem c hc').1
   have h4:=(h.clos.oks c hc').high
   omega
  ·have h2:=fold_mem h.shape.sq (fun c hc=>⟨(h.oks c hc).a,(h.oks c hc).b⟩) c hc'
   have h4:=(h.oks c hc').high
   omega
 ·rw [hWe]
  exact real_upto h.real hg.sq (zM n)
theorem Lay.none (h:Lay n cs ds V) (hW:closed far n (ds.foldl addc V)=none) (x:Nat→Int):¬ Holds (cs ++ ds) x:=fun hx=>by
 refine closed_none h.gds.sq zCt hW x ((obeys_fold (by decide) x h.good h.oks).2 ⟨fun i j hi hj hlt => ?_,fun c hc=>hx c (List.mem_append_right _ hc)⟩)
 exact h.clos.most (fun c hc=>hx c (List.mem_append_left _ hc)) hi hj hlt
structure Stp where
 sight:Int
 back:Bool
 deriving DecidableEq
def sightAt (s:Survey) (i:Int):Sight:=s.sights.getD i.toNat ⟨0,0,0,0⟩
def stepG (p q:Sight→Int) (s:Survey) (x:Stp):Bd:=
 if x.back=true then ⟨(sightAt s x.sight).to.toNat,(sightAt s x.sight).frm.toNat,q (sightAt s x.sight)⟩ else ⟨(sightAt s x.sight).frm.toNat,(sightAt s x.sight).to.toNat,p (sightAt s x.sight)⟩
def upS (y:Sight):Int:=y.rise+y.off
def downS (y:Sight):Int:=y.off - y.rise
abbrev stepB (s:Survey):Stp→Bd:=stepG upS downS s
abbrev StepsIn (s:Survey) (l:List Stp):Prop:=∀ x∈l,0≤x.sight∧x.sight<s.sights.length
theorem sight_mem {s:Survey} {i:Int} (h:0≤i∧i<s.sights.length):sightAt s i∈s.sights:=by
 unfold sightAt
 rw [zG,zF (by omega)]
 exact qB _
theorem step_mem {s:Survey} {x:Stp} (h:0≤x.sight∧x.sight<s.sights.length):stepB s x∈surveyB s:=by
 refine zBm.2 ⟨_,sight_mem h, ?_⟩
 unfold stepB stepG
 cases x.back
 ·exact .inl rfl
 ·exact .inr rfl
theorem pth_map {α:Type} (f:α→Bd):∀ (l:List α) (u v:Nat),Pth id u (l.map f) v↔Pth f u l v
 | [],u,v=>Iff.rfl
 | x :: l,u,v=>by
  show ((f x).a=u∧Pth id (f x).b (l.map f) v)↔_
  rw [pth_map f l];exact Iff.rfl
theorem tot_map {α:Type} (f:α→Bd):∀ l:List α,tot id (l.map f)=tot f l
 | []=>rfl
 | x :: l=>by
  show (f x).m+tot id (l.map f)=(f x).m+tot f l
  rw [tot_map f l]
theorem simple_map {α:Type} {f:α→Bd} {l:List α}:Simple id (l.map f)↔Simple f l:=by
 constructor
 ·rintro ⟨h1,⟨u,h2⟩,h3⟩
  exact ⟨fun e=>h1 (by rw [e];rfl),⟨u,(pth_map f l u u).1 h2⟩,by rw [List.map_map] at h3;exact h3⟩
 ·rintro ⟨h1,⟨u,h2⟩,h3⟩
  exact ⟨fun e=>h1 (List.map_eq_nil_iff.1 e),⟨u,(pth_map f l u u).2 h2⟩,by rw [List.map_map];exact h3⟩
structure RingP (s:Survey) (l:List Stp):Prop where
 simple:Simple (stepB s) l
 neg:tot (stepB s) l<0
theorem step_ne {s:Survey} (h:Sw s) {x:Stp} (hx:0≤x.sight∧x.sight<s.sights.length):(stepB s x).a≠(stepB s x).b∧(stepB s x).a<num s∧(stepB s x).b<num s:=by
 have:=h.bd _ (step_mem hx)
 exact ⟨this.2.2.1,this.1,this.2.1⟩
theorem RingP.len {s:Survey} (h:Sw s) {l:List Stp} (hl:StepsIn s l) (hr:RingP s l):2≤l.length∧l.length≤num s:=
 ⟨hr.simple.two fun x hx=>(step_ne h (hl x hx)).1,hr.simple.short fun x hx=>(step_ne h (hl x hx)).2.2⟩
abbrev stepR (s:Survey):Stp→Bd:=stepG (fun y => -y.rise) (fun y=>y.rise) s
theorem pth_ends {s:Survey} {p q p' q':Sight→Int}:∀ {l:List Stp} {u v:Nat},Pth (stepG p q s) u l v↔Pth (stepG p' q' s) u l v
 | [],u,v=>Iff.rfl
 | x :: l,u,v=>by
  have ea:(stepG p q s x).a=(stepG p' q' s x).a:=by unfold stepG;split <;> rfl
  have eb:(stepG p q s x).b=(stepG p' q' s x).b:=by unfold stepG;split <;> rfl
  show ((stepG p q s x).a=u∧Pth _ (stepG p q s x).b l v)↔((stepG p' q' s x).a=u∧Pth _ (stepG p' q' s x).b l v)
  rw [ea,eb,pth_ends (l:=l) (p:=p) (q:=q) (p':=p') (q':=q')]
theorem simple_ends {s:Survey} {p q p' q':Sight→Int} {l:List Stp} (h:Simple (stepG p q s) l):Simple (stepG p' q' s) l:=by
 obtain ⟨h1,⟨u,h2⟩,h3⟩:=h
 refine ⟨h1,⟨u,pth_ends.1 h2⟩, ?_⟩
 have e:(fun x=>(stepG p' q' s x).b)=fun x=>(stepG p q s x).b:=by
  funext x
  unfold stepG;split <;> rfl
 rw [e];exact h3
def riseL (s:Survey) (l:List Stp):Int:=-tot (stepR s) l
structure ErrP (s:Survey) (a d:Int):Prop where
 den:0<d
 num0:0≤a
 most:∀ l,StepsIn s l→Simple (stepR s) l→riseL s l * d≤a * l.length
 met:a=0 ∨ ∃ l,StepsIn s l∧l≠[]∧(∃ u,Pth (stepR s) u l u)∧riseL s l * d=a * l.length
theorem ErrP.walk {s:Survey} {a d:Int} (h:ErrP s a d) {l:List Stp} (hl:StepsIn s l) (hne:l≠[]) (hc:∃ u,Pth (stepR s) u l u):riseL s l * d≤a * l.length:=by
 obtain ⟨m,m1,m2,m3,m4⟩:=simple_in (stepR s) l.length l rfl hne hc
 have h1:=h.most m (fun x hx=>hl x (m3 x hx)) m1
 have p1:0<m.length:=List.length_pos_iff.2 m1.ne
 have p2:0<l.length:=List.length_pos_iff.2 hne
 have e:tot (stepR s) m * l.length≤tot (stepR s) l * m.length:=m4
 have e2:riseL s l * m.length≤riseL s m * l.length:=by
  unfold riseL
  rw [Int.neg_mul,Int.neg_mul];omega
 exact mean_trans (P:=m.length) (by omega) (by omega) (by have:=h.den;omega) (by
  show riseL s l * m.length≤riseL s m * l.length
  exact e2) (by
  show riseL s m * d≤a * m.length
  exact h1)
theorem ErrP.same {s:Survey} {a d a' d':Int} (h:ErrP s a d) (h':ErrP s a' d'):a * d'≤a' * d:=by
 have hd:=h.den
 have hd':=h'.den
 rcases h.met with rfl | ⟨l,l1,l2,l3,l4⟩
 ·rw [Int.zero_mul]
  exact yI h'.num0 (by omega)
 ·have h2:=h'.walk l1 l2 l3
  have p2:(0:Int)<l.length:=by have:=List.length_pos_iff.2 l2;omega
  have h3:riseL s l * d' * d≤a' * l.length * d:=qQ h2 (by omega)
  have e1:riseL s l * d' * d=a * d' * l.length:=by
   rw [qV,Int.mul_comm d' d,← qV,l4,qV,Int.mul_comm _ d',← qV]
  have e2:a' * l.length * d=a' * d * l.length:=by rw [qV,Int.mul_comm _ d,← qV]
  rw [e1,e2] at h3
  exact Int.le_of_mul_le_mul_right h3 p2
end Go.Lv
end
