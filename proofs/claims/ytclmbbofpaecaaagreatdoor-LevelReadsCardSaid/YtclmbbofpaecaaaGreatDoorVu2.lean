/- Part 2 of the proof. -/
import Derived.Test.YtclmbbofpaecaaaGreatDoorVu1
set_option linter.all false
set_option linter.unusedVariables false
set_option linter.unusedSimpArgs false
set_option linter.unusedSectionVars false
open Bool renaming and_eq_true → zR
open Int renaming toNat_natCast → qQ, mul_le_mul_of_nonneg_right → qR, mul_assoc → qZ, le_refl → yF, mul_nonneg → yK, le_trans → yP
open List renaming getElem?_eq_getElem → zF, getD_eq_getElem?_getD → zI, mem_cons_self → zO, mem_cons_of_mem → zQ, length_cons → zT, getElem_mem → qA, take_succ_eq_append_getElem → qG, mem_singleton → qL, getElem?_append_left → qO, map_append → qP, all_eq_true → qX, take_length → qY, not_mem_nil → yE, getElem?_set → yG, getElem?_replicate → yH, mem_cons → yL
open Nat renaming le_refl → zN, not_lt_zero → yC
section
namespace Go.Lv
open Go.Fw Go.Wk
structure More (n:Nat) (cs cs':List Bd) (f t:Nat) (p q:Int):Prop where
 n8:n≤8
 oks:Oks n cs
 oks':Oks n cs'
 mem:∀ c,c∈cs'↔c∈cs∨c=⟨f,t,p⟩∨c=⟨t,f,q⟩
 pq:0≤p+q
variable {n:Nat} {cs cs':List Bd} {f t:Nat} {p q:Int}
theorem More.fn (h:More n cs cs' f t p q):f<n:=(h.oks' _ ((h.mem ⟨f,t,p⟩).2 (.inr (.inl rfl)))).a
theorem More.tn (h:More n cs cs' f t p q):t<n:=(h.oks' _ ((h.mem ⟨f,t,p⟩).2 (.inr (.inl rfl)))).b
structure Allows (V:Mat) (f t:Nat) (p q:Int):Prop where
 one:ent V t f<far→0≤ent V t f+p
 two:ent V f t<far→0≤ent V f t+q
def Way (V:Mat) (f t:Nat) (p q:Int) (i j:Nat) (v:Int):Prop:=
 (ent V i j<far∧ent V i j≤v)∨(ent V i f<far∧ent V t j<far∧ent V i f+p+ent V t j≤v)∨(ent V i t<far∧ent V f j<far∧ent V i t+q+ent V f j≤v)
theorem more_way (h:More n cs cs' f t p q) {V:Mat} (hc:Clos n cs V) (ha:Allows V f t p q):∀ (l:List Bd) (i j:Nat),(∀ x∈l,x∈cs')→i<n→Pth id i l j→j<n∧Way V f t p q i j (tot id l)
 | [],i,j,_,hi,hp=>by
  cases hp
  refine ⟨hi,.inl ?_⟩
  rw [hc.diag i hi]
  exact ⟨zCs,yF _⟩
 | x :: l,i,j,hin,hi,hp=>by
  obtain ⟨e,hp⟩:=hp
  have hx':=hin x zO
  have hxb:=(h.oks' x hx').b
  obtain ⟨hj,hw⟩:=more_way h hc ha l x.b j (fun y hy=>hin y (zQ _ hy)) hxb hp
  refine ⟨hj, ?_⟩
  have e':x.a=i:=e
  have ht:tot id (x :: l)=x.m+tot id l:=rfl
  rw [ht]
  generalize tot id l=v at *
  have hf:=h.fn
  have htn:=h.tn
  rcases (h.mem x).1 hx' with hx | rfl | rfl
  ·obtain ⟨m1,m2⟩:=hc.mem x hx
   rw [e'] at m1 m2
   rcases hw with ⟨w1,w2⟩ | ⟨w1,w2,w3⟩ | ⟨w1,w2,w3⟩
   ·have tr:=hc.tri i x.b j hi hxb hj m2 w1
    exact .inl ⟨tr.2,by omega⟩
   ·have tr:=hc.tri i x.b f hi hxb hf m2 w1
    exact .inr (.inl ⟨tr.2,w2,by omega⟩)
   ·have tr:=hc.tri i x.b t hi hxb htn m2 w1
    exact .inr (.inr ⟨tr.2,w2,by omega⟩)
  ·have ei:f=i:=e'
   subst ei
   have d:=hc.diag f hi
   rcases hw with ⟨w1,w2⟩ | ⟨w1,w2,w3⟩ | ⟨w1,w2,w3⟩
   ·refine .inr (.inl ⟨by rw [d];exact zCs,w1, ?_⟩)
    show ent V f f+p+ent V t j≤p+v
    have w2':ent V t j≤v:=w2
    omega
   ·have w1':ent V t f<far:=w1
    have w3':ent V t f+p+ent V t j≤v:=w3
    have:=ha.one w1'
    refine .inr (.inl ⟨by rw [d];exact zCs,w2, ?_⟩)
    show ent V f f+p+ent V t j≤p+v
    omega
   ·have d2:=hc.diag t htn
    have w3':ent V t t+q+ent V f j≤v:=w3
    have:=h.pq
    refine .inl ⟨w2, ?_⟩
    show ent V f j≤p+v
    omega
  ·have ei:t=i:=e'
   subst ei
   have d:=hc.diag t hi
   rcases hw with ⟨w1,w2⟩ | ⟨w1,w2,w3⟩ | ⟨w1,w2,w3⟩
   ·refine .inr (.inr ⟨by rw [d];exact zCs,w1, ?_⟩)
    show ent V t t+q+ent V f j≤q+v
    have w2':ent V f j≤v:=w2
    omega
   ·have d2:=hc.diag f hf
    have w3':ent V f f+p+ent V t j≤v:=w3
    have:=h.pq
    refine .inl ⟨w2, ?_⟩
    show ent V t j≤q+v
    omega
   ·have w1':ent V f t<far:=w1
    have w3':ent V f t+q+ent V f j≤v:=w3
    have:=ha.two w1'
    refine .inr (.inr ⟨by rw [d];exact zCs,w2, ?_⟩)
    show ent V t t+q+ent V f j≤q+v
    omega
theorem more_some (h:More n cs cs' f t p q) {V V':Mat} (hc:Clos n cs V) (hc':Clos n cs' V'):Allows V f t p q:=by
 have hf:=h.fn
 have ht:=h.tn
 have m1':ent V' f t≤p∧ent V' f t<far:=hc'.mem _ ((h.mem ⟨f,t,p⟩).2 (.inr (.inl rfl)))
 have m2':ent V' t f≤q∧ent V' t f<far:=hc'.mem _ ((h.mem ⟨t,f,q⟩).2 (.inr (.inr rfl)))
 have sub:∀ {i j:Nat},i<n→j<n→ent V i j<far→ent V' i j≤ent V i j∧ent V' i j<far:=fun {i j} hi hj hlt=>hc.le hc' (fun c hc=>(h.mem c).2 (.inl hc)) hi hj hlt
 refine ⟨fun hlt => ?_,fun hlt => ?_⟩
 ·have s1:=sub ht hf hlt
  have tr:=(hc'.tri t f t ht hf ht s1.2 m1'.2).1
  rw [hc'.diag t ht] at tr
  omega
 ·have s1:=sub hf ht hlt
  have tr:=(hc'.tri f t f hf ht hf s1.2 m2'.2).1
  rw [hc'.diag f hf] at tr
  omega
theorem more_allows (h:More n cs cs' f t p q) {V:Mat} (hc:Clos n cs V):(clo n cs').isSome=true↔Allows V f t p q:=by
 have hf:=h.fn
 have ht:=h.tn
 constructor
 ·intro hs
  cases hV':clo n cs' with
  | none=>rw [hV'] at hs;cases hs
  | some V'=>exact more_some h hc (clo_clos h.n8 h.oks' hV')
 ·intro ha
  cases hV':clo n cs' with
  | some V'=>rfl
  | none =>
   exfalso
   obtain ⟨m,m1,m2,m3⟩:=clo_none h.oks' hV'
   obtain ⟨u,hu⟩:=m1.closed
   have hun:u<n:=by
    match m,m1.ne,hu,m2 with
    | x :: l,_,hu,m2 =>
     have e:x.a=u:=hu.1
     rw [← e];exact (h.oks' x (m2 x zO)).a
   obtain ⟨_,hw⟩:=more_way h hc ha m u u m2 hun hu
   rcases hw with ⟨w1,w2⟩ | ⟨w1,w2,w3⟩ | ⟨w1,w2,w3⟩
   ·rw [hc.diag u hun] at w2;omega
   ·have tr:=hc.tri t u f ht hun hf w2 w1
    have:=ha.one tr.2
    omega
   ·have tr:=hc.tri f u t hf hun ht w2 w1
    have:=ha.two tr.2
    omega
def withM (V:Mat) (f t:Nat) (p q:Int) (i j:Nat):Int:=
 min (min (ent V i j) (if ent V i f<far∧ent V t j<far then ent V i f+p+ent V t j else far)) (if ent V i t<far∧ent V f j<far then ent V i t+q+ent V f j else far)
theorem more_ent (h:More n cs cs' f t p q) {V V':Mat} (hc:Clos n cs V) (hc':Clos n cs' V') {i j:Nat} (hi:i<n) (hj:j<n) (hlt:ent V i j<far):ent V' i j=withM V f t p q i j:=by
 have ha:=more_some h hc hc'
 have hf:=h.fn
 have ht:=h.tn
 have m1:ent V' f t≤p∧ent V' f t<far:=hc'.mem _ ((h.mem ⟨f,t,p⟩).2 (.inr (.inl rfl)))
 have m2:ent V' t f≤q∧ent V' t f<far:=hc'.mem _ ((h.mem ⟨t,f,q⟩).2 (.inr (.inr rfl)))
 have sub:∀ {i j:Nat},i<n→j<n→ent V i j<far→ent V' i j≤ent V i j∧ent V' i j<far:=fun {i j} hi hj hlt=>hc.le hc' (fun c hc=>(h.mem c).2 (.inl hc)) hi hj hlt
 have s0:=sub hi hj hlt
 have up1:ent V i f<far∧ent V t j<far→ent V' i j≤ent V i f+p+ent V t j:=fun ⟨g1,g2⟩=>by
  have a1:=sub hi hf g1
  have a2:=sub ht hj g2
  have t1:=hc'.tri i f t hi hf ht a1.2 m1.2
  have t2:=hc'.tri i t j hi ht hj t1.2 a2.2
  omega
 have up2:ent V i t<far∧ent V f j<far→ent V' i j≤ent V i t+q+ent V f j:=fun ⟨g1,g2⟩=>by
  have a1:=sub hi ht g1
  have a2:=sub hf hj g2
  have t1:=hc'.tri i t f hi ht hf a1.2 m2.2
  have t2:=hc'.tri i f j hi hf hj t1.2 a2.2
  omega
 obtain ⟨l,p1,p2,p3⟩:=hc'.real i j hi hj s0.2
 obtain ⟨_,hw⟩:=more_way h hc ha l i j p1 hi p2
 rw [p3] at hw
 unfold withM
 have lo1:ent V' i j≤if ent V i f<far∧ent V t j<far then ent V i f+p+ent V t j else far:=by
  split
  ·rename_i g;exact up1 g
  ·omega
 have lo2:ent V' i j≤if ent V i t<far∧ent V f j<far then ent V i t+q+ent V f j else far:=by
  split
  ·rename_i g;exact up2 g
  ·omega
 rcases hw with ⟨w1,w2⟩ | ⟨w1,w2,w3⟩ | ⟨w1,w2,w3⟩
 ·omega
 ·rw [if_pos ⟨w1,w2⟩] at lo1 ⊢;omega
 ·have e2:(if ent V i t<far∧ent V f j<far then ent V i t+q+ent V f j else far)=ent V i t+q+ent V f j:=if_pos ⟨w1,w2⟩
  rw [e2] at lo2 ⊢;omega
structure Shape (n:Nat) (V:Mat):Prop where
 sq:Sq n V
 high:∀ i j,i<n→j<n→ent V i j≤far
theorem clo_shape {n:Nat} {cs:List Bd} (hcs:Oks n cs) {V:Mat} (h:clo n cs=some V):Shape n V:=by
 have hg:=(zBr n).fold hcs
 have hV:V=upto far n n (cs.foldl addc (base far n)):=by
  unfold clo closed at h
  split at h
  ·cases h;rfl
  ·cases h
 rw [hV]
 exact ⟨hg.sq.upto far n n,fun i j hi hj=>yP (upto_le hg.sq far n i j) (hg.high i j hi hj)⟩
structure Lay (n:Nat) (cs ds:List Bd) (V:Mat):Prop where
 n8:n≤8
 clos:Clos n cs V
 shape:Shape n V
 bd:∀ i j,i<n→j<n→ent V i j<far → -big≤ent V i j∧ent V i j≤big
 oks:Oks n ds
variable {n:Nat} {cs ds:List Bd} {V:Mat}
theorem Lay.good (h:Lay n cs ds V):Good far big big n V:=by
 refine ⟨h.shape.sq,h.clos.diag,h.shape.high,fun i j hi hj hlt=>(h.bd i j hi hj hlt).2,fun i j hi hj => ?_⟩
 by_cases g:ent V i j<far
 ·exact (h.bd i j hi hj g).1
 ·have h1:-big≤far:=by decide
  omega
theorem Lay.gds (h:Lay n cs ds V):Good far big big n (ds.foldl addc V):=h.good.fold h.oks
theorem Lay.all (h:Lay n cs ds V):Oks n (cs ++ ds):=fun c hc=>by
 rcases List.mem_append.1 hc with hc | hc
 ·exact h.clos.oks c hc
 ·exact h.oks c hc
theorem Lay.real (h:Lay n cs ds V):Real (cs ++ ds) n (ds.foldl addc V):=by
 refine zEj (fun c hc=>List.mem_append_right _ hc) (fun c hc=>⟨(h.oks c hc).a,(h.oks c hc).b⟩) h.shape.sq fun i j hi hj hlt => ?_
 obtain ⟨l,p1,p2,p3⟩:=h.clos.real i j hi hj hlt
 exact ⟨l,fun x hx=>List.mem_append_left _ (p1 x hx),p2,p3⟩
theorem Lay.some (h:Lay n cs ds V) {W:Mat} (hW:closed far n (ds.foldl addc V)=some W):Clos n (cs ++ ds) W∧Shape n W:=by
 have hg:=h.gds
 have hc:=closed_some hg.sq hg.diag (by decide) (pow_far h.n8) hg.small hW
 have hWe:W=upto far n n (ds.foldl addc V):=by
  unfold closed at hW
  split at hW
  ·cases hW;rfl
  ·cases hW
 have hle:∀ i j,ent (ds.foldl addc V) i j≤ent V i j:=fold_le h.shape.sq fun c hc=>⟨(h.oks c hc).a,(h.oks c hc).b⟩
 refine ⟨⟨h.all,hc.diag,hc.tri,fun c hc' => ?_, ?_⟩,⟨hc.sq,fun i j hi hj=>yP (hc.le i j) (hg.high i j hi hj)⟩⟩
 ·have h1:=hc.le c.a c.b
  have hb:big<far:=by decide
  rcases List.mem_append.1 hc' with hc' | hc'
  ·have h2:=hle c.a c.b
   have h3:=(h.clos.mem c hc').1
   have h4:=(h.clos.oks c hc').high
   omega
  ·have h2:=fold_mem h.shape.sq (fun c hc=>⟨(h.oks c hc).a,(h.oks c hc).b⟩) c hc'
   have h4:=(h.oks c hc').high
   omega
 ·rw [hWe]
  exact real_upto h.real hg.sq (zN n)
theorem Lay.none (h:Lay n cs ds V) (hW:closed far n (ds.foldl addc V)=none) (x:Nat→Int):¬ Holds (cs ++ ds) x:=fun hx=>by
 refine closed_none h.gds.sq zCs hW x ((obeys_fold (by decide) x h.good h.oks).2 ⟨fun i j hi hj hlt => ?_,fun c hc=>hx c (List.mem_append_right _ hc)⟩)
 exact h.clos.most (fun c hc=>hx c (List.mem_append_left _ hc)) hi hj hlt
structure Stp where
 sight:Int
 back:Bool
 deriving DecidableEq
def sightAt (s:Survey) (i:Int):Sight:=s.sights.getD i.toNat ⟨0,0,0,0⟩
def stepG (p q:Sight→Int) (s:Survey) (x:Stp):Bd:=
 if x.back=true then ⟨(sightAt s x.sight).to.toNat,(sightAt s x.sight).frm.toNat,q (sightAt s x.sight)⟩ else ⟨(sightAt s x.sight).frm.toNat,(sightAt s x.sight).to.toNat,p (sightAt s x.sight)⟩
def upS (y:Sight):Int:=y.rise+y.off
def downS (y:Sight):Int:=y.off - y.rise
abbrev stepB (s:Survey):Stp→Bd:=stepG upS downS s
abbrev StepsIn (s:Survey) (l:List Stp):Prop:=∀ x∈l,0≤x.sight∧x.sight<s.sights.length
theorem sight_mem {s:Survey} {i:Int} (h:0≤i∧i<s.sights.length):sightAt s i∈s.sights:=by
 unfold sightAt
 rw [zI,zF (by omega)]
 exact qA _
theorem step_mem {s:Survey} {x:Stp} (h:0≤x.sight∧x.sight<s.sights.length):stepB s x∈surveyB s:=by
 refine zBo.2 ⟨_,sight_mem h, ?_⟩
 unfold stepB stepG
 cases x.back
 ·exact .inl rfl
 ·exact .inr rfl
theorem pth_map {α:Type} (f:α→Bd):∀ (l:List α) (u v:Nat),Pth id u (l.map f) v↔Pth f u l v
 | [],u,v=>Iff.rfl
 | x :: l,u,v=>by
  show ((f x).a=u∧Pth id (f x).b (l.map f) v)↔_
  rw [pth_map f l];exact Iff.rfl
theorem tot_map {α:Type} (f:α→Bd):∀ l:List α,tot id (l.map f)=tot f l
 | []=>rfl
 | x :: l=>by
  show (f x).m+tot id (l.map f)=(f x).m+tot f l
  rw [tot_map f l]
theorem simple_map {α:Type} {f:α→Bd} {l:List α}:Simple id (l.map f)↔Simple f l:=by
 constructor
 ·rintro ⟨h1,⟨u,h2⟩,h3⟩
  exact ⟨fun e=>h1 (by rw [e];rfl),⟨u,(pth_map f l u u).1 h2⟩,by rw [List.map_map] at h3;exact h3⟩
 ·rintro ⟨h1,⟨u,h2⟩,h3⟩
  exact ⟨fun e=>h1 (List.map_eq_nil_iff.1 e),⟨u,(pth_map f l u u).2 h2⟩,by rw [List.map_map];exact h3⟩
structure RingP (s:Survey) (l:List Stp):Prop where
 simple:Simple (stepB s) l
 neg:tot (stepB s) l<0
theorem step_ne {s:Survey} (h:Sw s) {x:Stp} (hx:0≤x.sight∧x.sight<s.sights.length):(stepB s x).a≠(stepB s x).b∧(stepB s x).a<num s∧(stepB s x).b<num s:=by
 have:=h.bd _ (step_mem hx)
 exact ⟨this.2.2.1,this.1,this.2.1⟩
theorem RingP.len {s:Survey} (h:Sw s) {l:List Stp} (hl:StepsIn s l) (hr:RingP s l):2≤l.length∧l.length≤num s:=
 ⟨hr.simple.two fun x hx=>(step_ne h (hl x hx)).1,hr.simple.short fun x hx=>(step_ne h (hl x hx)).2.2⟩
abbrev stepR (s:Survey):Stp→Bd:=stepG (fun y => -y.rise) (fun y=>y.rise) s
theorem pth_ends {s:Survey} {p q p' q':Sight→Int}:∀ {l:List Stp} {u v:Nat},Pth (stepG p q s) u l v↔Pth (stepG p' q' s) u l v
 | [],u,v=>Iff.rfl
 | x :: l,u,v=>by
  have ea:(stepG p q s x).a=(stepG p' q' s x).a:=by unfold stepG;split <;> rfl
  have eb:(stepG p q s x).b=(stepG p' q' s x).b:=by unfold stepG;split <;> rfl
  show ((stepG p q s x).a=u∧Pth _ (stepG p q s x).b l v)↔((stepG p' q' s x).a=u∧Pth _ (stepG p' q' s x).b l v)
  rw [ea,eb,pth_ends (l:=l) (p:=p) (q:=q) (p':=p') (q':=q')]
theorem simple_ends {s:Survey} {p q p' q':Sight→Int} {l:List Stp} (h:Simple (stepG p q s) l):Simple (stepG p' q' s) l:=by
 obtain ⟨h1,⟨u,h2⟩,h3⟩:=h
 refine ⟨h1,⟨u,pth_ends.1 h2⟩, ?_⟩
 have e:(fun x=>(stepG p' q' s x).b)=fun x=>(stepG p q s x).b:=by
  funext x
  unfold stepG;split <;> rfl
 rw [e];exact h3
def riseL (s:Survey) (l:List Stp):Int:=-tot (stepR s) l
structure ErrP (s:Survey) (a d:Int):Prop where
 den:0<d
 num0:0≤a
 most:∀ l,StepsIn s l→Simple (stepR s) l→riseL s l * d≤a * l.length
 met:a=0 ∨ ∃ l,StepsIn s l∧l≠[]∧(∃ u,Pth (stepR s) u l u)∧riseL s l * d=a * l.length
theorem ErrP.walk {s:Survey} {a d:Int} (h:ErrP s a d) {l:List Stp} (hl:StepsIn s l) (hne:l≠[]) (hc:∃ u,Pth (stepR s) u l u):riseL s l * d≤a * l.length:=by
 obtain ⟨m,m1,m2,m3,m4⟩:=simple_in (stepR s) l.length l rfl hne hc
 have h1:=h.most m (fun x hx=>hl x (m3 x hx)) m1
 have p1:0<m.length:=List.length_pos_iff.2 m1.ne
 have p2:0<l.length:=List.length_pos_iff.2 hne
 have e:tot (stepR s) m * l.length≤tot (stepR s) l * m.length:=m4
 have e2:riseL s l * m.length≤riseL s m * l.length:=by
  unfold riseL
  rw [Int.neg_mul,Int.neg_mul];omega
 exact mean_trans (P:=m.length) (by omega) (by omega) (by have:=h.den;omega) (by
  show riseL s l * m.length≤riseL s m * l.length
  exact e2) (by
  show riseL s m * d≤a * m.length
  exact h1)
theorem ErrP.same {s:Survey} {a d a' d':Int} (h:ErrP s a d) (h':ErrP s a' d'):a * d'≤a' * d:=by
 have hd:=h.den
 have hd':=h'.den
 rcases h.met with rfl | ⟨l,l1,l2,l3,l4⟩
 ·rw [Int.zero_mul]
  exact yK h'.num0 (by omega)
 ·have h2:=h'.walk l1 l2 l3
  have p2:(0:Int)<l.length:=by have:=List.length_pos_iff.2 l2;omega
  have h3:riseL s l * d' * d≤a' * l.length * d:=qR h2 (by omega)
  have e1:riseL s l * d' * d=a * d' * l.length:=by
   rw [qZ,Int.mul_comm d' d,← qZ,l4,qZ,Int.mul_comm _ d',← qZ]
  have e2:a' * l.length * d=a' * d * l.length:=by rw [qZ,Int.mul_comm _ d,← qZ]
  rw [e1,e2] at h3
  exact Int.le_of_mul_le_mul_right h3 p2
def rowOne (b r:List Int) (u v:Nat) (m:Int):List Int:=if b.getD u 0 > -far then r.set v (max (r.getD v 0) (b.getD u 0+m)) else r
def rowStep (b:List Int) (r:List Int) (x:Sight):List Int:=rowOne b (rowOne b r x.frm.toNat x.to.toNat x.rise) x.to.toNat x.frm.toNat (-x.rise)
def walkRow (s:Survey) (b:List Int):List Int:=s.sights.foldl (rowStep b) (List.replicate (num s) (-far))
structure Wl (s:Survey) (a:Nat) (k:Nat) (v:Nat) (l:List Stp):Prop where
 ok:StepsIn s l
 len:l.length=k
 pth:Pth (stepR s) a l v
structure RowP (s:Survey) (n a k:Nat) (E:List Stp→Prop) (r:List Int):Prop where
 len:r.length=n
 low:∀ v,v<n → -far≤r.getD v 0
 met:∀ v,v<n→r.getD v 0 > -far → ∃ l,Wl s a k v l∧riseL s l=r.getD v 0
 most:∀ v l,v<n→Wl s a k v l→E l→r.getD v 0 > -far∧riseL s l≤r.getD v 0
theorem rise_app (s:Survey) (l m:List Stp):riseL s (l ++ m)=riseL s l+riseL s m:=by
 unfold riseL;rw [tot_app];omega
theorem getD_set {r:List Int} {v w:Nat} {x:Int} (hv:v<r.length):(r.set v x).getD w 0=if w=v then x else r.getD w 0:=by
 rw [zI,yG]
 by_cases e:v=w
 ·subst e;rw [if_pos rfl,if_pos rfl,if_pos hv];rfl
 ·rw [if_neg e,if_neg fun h=>e h.symm,← zI]
theorem rise_bd {s:Survey} (h:Sw s):∀ {l:List Stp},StepsIn s l → -1000 * (l.length:Int)≤riseL s l∧riseL s l≤1000 * l.length
 | [],_=>by simp [riseL,tot]
 | x :: l,hl=>by
  have h1:=rise_bd h (l:=l) fun y hy=>hl y (zQ _ hy)
  have h2:=(h.sights _ (sight_mem (hl x zO))).rise
  have e:riseL s (x :: l) = -(stepR s x).m+riseL s l:=by
   show -((stepR s x).m+tot (stepR s) l)=_
   unfold riseL;omega
  have h3:-1000 ≤ -(stepR s x).m ∧ -(stepR s x).m≤1000:=by
   unfold stepR stepG
   split
   ·show -1000 ≤ -(sightAt s x.sight).rise ∧ -(sightAt s x.sight).rise≤1000;omega
   ·show -1000 ≤ - -(sightAt s x.sight).rise ∧ - -(sightAt s x.sight).rise≤1000;omega
  rw [e,zT]
  omega
theorem row_one {s:Survey} (h:Sw s) {n a k:Nat} (hk:k≤100) {E:List Stp→Prop} {b r:List Int} (hb:RowP s n a k (fun _=>True) b) (hr:RowP s n a (k+1) E r) {x:Stp} (hx:0≤x.sight∧x.sight<s.sights.length)
  (hu:(stepR s x).a<n) (hv:(stepR s x).b<n):RowP s n a (k+1) (fun l=>E l ∨ ∃ m,l=m ++ [x]) (rowOne b r (stepR s x).a (stepR s x).b (-(stepR s x).m)):=by
 have hfar:far=1099511627776:=rfl
 unfold rowOne
 by_cases g:b.getD (stepR s x).a 0 > -far
 ·rw [if_pos g]
  obtain ⟨l0,w0,e0⟩:=hb.met _ hu g
  have bd0:=rise_bd h w0.ok
  have len0:=w0.len
  have hset:=fun w=>getD_set (r:=r) (v:=(stepR s x).b) (w:=w) (x:=max (r.getD (stepR s x).b 0) (b.getD (stepR s x).a 0 + -(stepR s x).m)) (by rw [hr.len];exact hv)
  have wl:Wl s a (k+1) (stepR s x).b (l0 ++ [x]):=⟨fun y hy=>by
   rcases List.mem_append.1 hy with hy | hy
   ·exact w0.ok y hy
   ·rw [qL] at hy;subst hy;exact hx,by simp [w0.len],zBn.2 ⟨_,w0.pth,rfl,rfl⟩⟩
  have ew:riseL s (l0 ++ [x])=b.getD (stepR s x).a 0 + -(stepR s x).m:=by
   rw [rise_app,e0]
   show _ + -((stepR s x).m+0)=_
   omega
  have bd1:=rise_bd h wl.ok
  have len1:=wl.len
  refine ⟨by rw [List.length_set];exact hr.len,fun v hv' => ?_,fun v hv' hgt => ?_,fun v l hv' hw hE => ?_⟩
  ·rw [hset];split
   ·have:=hr.low _ hv;omega
   ·exact hr.low v hv'
  ·rw [hset] at hgt ⊢
   by_cases e:v=(stepR s x).b
   ·rw [if_pos e] at hgt ⊢
    subst e
    rcases Int.le_total (r.getD (stepR s x).b 0) (b.getD (stepR s x).a 0 + -(stepR s x).m) with q | q
    ·rw [Int.max_eq_right q];exact ⟨_,wl,ew⟩
    ·rw [Int.max_eq_left q] at hgt ⊢;exact hr.met _ hv hgt
   ·rw [if_neg e] at hgt ⊢;exact hr.met v hv' hgt
  ·rw [hset]
   rcases hE with hE | ⟨m,rfl⟩
   ·have:=hr.most v l hv' hw hE
    by_cases e:v=(stepR s x).b
    ·rw [if_pos e];subst e;omega
    ·rw [if_neg e];exact this
   ·obtain ⟨w,p1,p2⟩:=zBn.1 hw.pth
    have ev:(stepR s x).b=v:=p2.2
    have eu:(stepR s x).a=w:=p2.1
    subst eu;subst ev
    have hl:=hw.len
    simp at hl
    have:=hb.most (stepR s x).a m hu ⟨fun y hy=>hw.ok y (List.mem_append_left _ hy),hl,p1⟩ trivial
    rw [if_pos rfl]
    have e2:riseL s (m ++ [x])=riseL s m + -(stepR s x).m:=by
     rw [rise_app]
     show _ + -((stepR s x).m+0)=_
     omega
    rw [e2]
    have bd2:=rise_bd h hw.ok
    rw [e2] at bd2
    have len2:=hw.len
    omega
 ·rw [if_neg g]
  refine ⟨hr.len,hr.low,hr.met,fun v l hv' hw hE => ?_⟩
  rcases hE with hE | ⟨m,rfl⟩
  ·exact hr.most v l hv' hw hE
  ·exfalso
   obtain ⟨w,p1,p2⟩:=zBn.1 hw.pth
   have eu:(stepR s x).a=w:=p2.1
   subst eu
   have hl:=hw.len
   simp at hl
   exact g (hb.most (stepR s x).a m hu ⟨fun y hy=>hw.ok y (List.mem_append_left _ hy),hl,p1⟩ trivial).1
theorem RowP.imp {s:Survey} {n a k:Nat} {E F:List Stp→Prop} {r:List Int} (h:RowP s n a k E r) (hi:∀ v l,Wl s a k v l→F l→E l):RowP s n a k F r:=
 ⟨h.len,h.low,h.met,fun v l hv hw hF=>h.most v l hv hw (hi v l hw hF)⟩
theorem row_all {s:Survey} (h:Sw s) {a k:Nat} (hk:k≤100) {b:List Int} (hb:RowP s (num s) a k (fun _=>True) b):RowP s (num s) a (k+1) (fun _=>True) (walkRow s b):=by
 have hfar:far=1099511627776:=rfl
 have key:∀ i,i≤s.sights.length→RowP s (num s) a (k+1) (fun l => ∃ m x,l=m ++ [x]∧x.sight<(i:Int)) ((s.sights.take i).foldl (rowStep b) (List.replicate (num s) (-far))):=by
  intro i
  induction i with
  | zero =>
   intro _
   have e:∀ v,v<num s→(List.replicate (num s) (-far)).getD v 0 = -far:=fun v hv=>by
    rw [zI,yH,if_pos hv];rfl
   refine ⟨by simp,fun v hv => ?_,fun v hv hg => ?_,fun v l hv hw ⟨m,x,e1,e2⟩ => ?_⟩
   ·rw [List.take_zero,List.foldl_nil,e v hv];omega
   ·rw [List.take_zero,List.foldl_nil,e v hv] at hg;omega
   ·subst e1
    have:=hw.ok x (by simp)
    omega
  | succ i ih =>
   intro hi
   have hI:=ih (by omega)
   have hx:s.sights[i]=sightAt s (i:Int):=by
    unfold sightAt
    rw [qQ,zI,zF (by omega)];rfl
   rw [qG (by omega),List.foldl_append,hx]
   have ok:∀ bk,0≤(Stp.mk (i:Int) bk).sight∧(Stp.mk (i:Int) bk).sight<s.sights.length:=fun bk=>⟨by show (0:Int)≤i;omega,by show (i:Int)<_;omega⟩
   have ab:∀ bk,(stepR s ⟨i,bk⟩).a<num s∧(stepR s ⟨i,bk⟩).b<num s:=fun bk=>by
    have:=step_ne h (ok bk)
    have ea:(stepR s ⟨i,bk⟩).a=(stepB s ⟨i,bk⟩).a:=by unfold stepR stepB stepG;split <;> rfl
    have eb:(stepR s ⟨i,bk⟩).b=(stepB s ⟨i,bk⟩).b:=by unfold stepR stepB stepG;split <;> rfl
    rw [ea,eb];exact this.2
   have h1:=row_one h hk hb hI (ok false) (ab false).1 (ab false).2
   have h2:=row_one h hk hb h1 (ok true) (ab true).1 (ab true).2
   have e1:-(stepR s ⟨i,false⟩).m=(sightAt s (i:Int)).rise:=by
    show - -(sightAt s (i:Int)).rise=_;omega
   have e2:-(stepR s ⟨i,true⟩).m = -(sightAt s (i:Int)).rise:=rfl
   rw [e1] at h1 h2
   rw [e2] at h2
   refine RowP.imp (show RowP s (num s) a (k+1) _ _ from h2) fun v l hw ⟨m,x,e3,e4⟩ => ?_
   by_cases g:x.sight<(i:Int)
   ·exact .inl (.inl ⟨m,x,e3,g⟩)
   ·have hxs:=(hw.ok x (by rw [e3];simp)).1
    have:x.sight=(i:Int):=by omega
    cases hb':x.back with
    | false=>exact .inl (.inr ⟨m,by rw [e3];congr 1;cases x;simp only at this hb';subst this;subst hb';rfl⟩)
    | true=>exact .inr ⟨m,by rw [e3];congr 1;cases x;simp only at this hb';subst this;subst hb';rfl⟩
 have:=key s.sights.length (zN _)
 rw [qY] at this
 refine RowP.imp this fun v l hw _ => ?_
 rcases List.eq_nil_or_concat l with rfl | ⟨m,x,rfl⟩
 ·have:=hw.len
  simp at this
 ·rw [List.concat_eq_append] at hw ⊢
  exact ⟨m,x,rfl,(hw.ok x (by simp)).2⟩
def zBs (n a:Nat):List Int:=(List.replicate n (-far)).set a 0
theorem row_still (s:Survey) {n a:Nat} (ha:a<n):RowP s n a 0 (fun _=>True) (zBs n a):=by
 have hfar:far=1099511627776:=rfl
 have hset:=fun w=>getD_set (r:=List.replicate n (-far)) (v:=a) (w:=w) (x:=0) (by simpa using ha)
 have e:∀ v,v<n→(List.replicate n (-far)).getD v 0 = -far:=fun v hv=>by
  rw [zI,yH,if_pos hv];rfl
 unfold zBs
 refine ⟨by simp,fun v hv => ?_,fun v hv hg => ?_,fun v l hv hw _ => ?_⟩
 ·rw [hset];split
  ·omega
  ·rw [e v hv];omega
 ·rw [hset] at hg ⊢
  by_cases g:v=a
  ·subst g;exact ⟨[],⟨fun x hx=>(by cases hx),rfl,rfl⟩,by rw [if_pos rfl];rfl⟩
  ·rw [if_neg g,e v hv] at hg;omega
 ·have hl:l=[]:=List.length_eq_zero_iff.1 hw.len
  subst hl
  have ea:a=v:=hw.pth
  subst ea
  rw [hset,if_pos rfl]
  exact ⟨by omega,by simp [riseL,tot]⟩
def walkN (s:Survey):Nat→Nat→List Int
 | 0,a=>zBs (num s) a
 | k+1,a=>walkRow s (walkN s k a)
theorem walkN_row {s:Survey} (h:Sw s) {a:Nat} (ha:a<num s):∀ k,k≤100→RowP s (num s) a k (fun _=>True) (walkN s k a)
 | 0,_=>row_still s ha
 | k+1,hk=>row_all h (by omega) (walkN_row h ha k (by omega))
def better (o:Int × Int) (n d:Int):Int × Int:=if n > -far∧n * o.2 > o.1 * d then (n,d) else o
def zDg (s:Survey) (i:Nat) (o:Int × Int):Int × Int:=(List.range (num s)).foldl (fun o a=>better o ((walkN s (i+1) a).getD a 0) (i+1:Nat)) o
def leastF (s:Survey):Int × Int:=(List.range (num s)).foldl (fun o i=>zDg s i o) (0,1)
structure ErrQ (s:Survey) (M:Nat→Nat→Prop) (o:Int × Int):Prop where
 den:0<o.2∧o.2≤num s
 num0:0≤o.1∧o.1≤1000 * o.2
 most:∀ l a,StepsIn s l→l≠[]→Pth (stepR s) a l a→a<num s→l.length≤num s→M l.length a→riseL s l * o.2≤o.1 * l.length
 met:o.1=0 ∨ ∃ l,StepsIn s l∧l≠[]∧(∃ u,Pth (stepR s) u l u)∧riseL s l * o.2=o.1 * l.length
theorem better_ok {s:Survey} (h:Sw s) {M:Nat→Nat→Prop} {o:Int × Int} (ho:ErrQ s M o) {i a:Nat} (hi:i<num s) (ha:a<num s):ErrQ s (fun k b=>M k b∨(k=i+1∧b=a)) (better o ((walkN s (i+1) a).getD a 0) (i+1:Nat)):=by
 have hn:=h.num8
 have hw:=walkN_row h ha (i+1) (by omega)
 obtain ⟨d1,d2⟩:=ho.den
 have hnew:∀ l,StepsIn s l→Pth (stepR s) a l a→l.length=i+1→(walkN s (i+1) a).getD a 0 > -far∧riseL s l≤(walkN s (i+1) a).getD a 0:=fun l h1 h2 h3=>hw.most a l ha ⟨h1,h3,h2⟩ trivial
 unfold better
 generalize hv:(walkN s (i+1) a).getD a 0=v at *
 by_cases g:v > -far∧v * o.2 > o.1 * (i+1:Nat)
 ·rw [if_pos g]
  obtain ⟨l0,w0,e0⟩:=hw.met a ha (by rw [hv];exact g.1)
  rw [hv] at e0
  have bd:=rise_bd h w0.ok
  have hl0:=w0.len
  have hpos:0≤o.1 * (i+1:Nat):=yK ho.num0.1 (by omega)
  have hv0:0<v:=by
   refine Int.not_le.1 fun hle => ?_
   have:=qR hle (Int.le_of_lt d1)
   rw [Int.zero_mul] at this
   have:=g.2
   omega
  refine ⟨⟨by show (0:Int)<((i+1:Nat):Int);omega,by show ((i+1:Nat):Int)≤_;omega⟩,⟨by show 0≤v;omega,by
   show v≤1000 * ((i+1:Nat):Int)
   rw [← e0,← hl0];exact bd.2⟩,fun l b h1 h2 h3 h4 h5 h6 => ?_,.inr ⟨l0,w0.ok,fun e=>by rw [e] at hl0;simp at hl0,⟨a,w0.pth⟩,by
   show riseL s l0 * ((i+1:Nat):Int)=v * l0.length
   rw [e0,hl0]⟩⟩
  rcases h6 with h6 | ⟨h6,rfl⟩
  ·have:=ho.most l b h1 h2 h3 h4 h5 h6
   show riseL s l * ((i+1:Nat):Int)≤v * l.length
   exact mean_trans (t:=riseL s l) (P:=o.2) (p:=o.1) (m:=l.length) (l:=v) (L:=((i+1:Nat):Int)) d1 (by omega) (by omega) this (by have:=g.2;omega)
  ·have:=(hnew l h1 h3 h6).2
   show riseL s l * ((i+1:Nat):Int)≤v * l.length
   rw [h6]
   exact qR this (by omega)
 ·rw [if_neg g]
  refine ⟨ho.den,ho.num0,fun l b h1 h2 h3 h4 h5 h6 => ?_,ho.met⟩
  rcases h6 with h6 | ⟨h6,rfl⟩
  ·exact ho.most l b h1 h2 h3 h4 h5 h6
  ·obtain ⟨q1,q2⟩:=hnew l h1 h3 h6
   have q3:v * o.2≤o.1 * (i+1:Nat):=Int.not_lt.1 fun hh=>g ⟨q1,hh⟩
   have q4:riseL s l * o.2≤v * o.2:=qR q2 (Int.le_of_lt d1)
   rw [h6];omega
theorem least_ok {s:Survey} (h:Sw s):ErrQ s (fun k a=>1≤k∧k≤num s∧a<num s) (leastF s):=by
 have hn:=h.num8
 have hst:=h.st
 have start:ErrQ s (fun _ _=>False) (0,1):=⟨⟨by show (0:Int)<1;decide,by show (1:Int)≤((num s:Nat):Int);show (1:Int)≤(s.stations.toNat:Int);omega⟩,⟨yF _,by show (0:Int)≤1000 * 1;decide⟩,fun l a _ _ _ _ _ hf=>hf.elim,.inl rfl⟩
 have imp:∀ {M M':Nat→Nat→Prop} {o:Int × Int},ErrQ s M o→(∀ k b,M' k b→M k b)→ErrQ s M' o:=fun ho hi=>⟨ho.den,ho.num0,fun l a h1 h2 h3 h4 h5 h6=>ho.most l a h1 h2 h3 h4 h5 (hi _ _ h6),ho.met⟩
 have rowK:∀ i,i<num s → ∀ o,ErrQ s (fun k b=>1≤k∧k≤i∧b<num s) o→ErrQ s (fun k b=>1≤k∧k≤i+1∧b<num s) (zDg s i o):=by
  intro i hi o ho
  have:=fold_ind (fun a o=>ErrQ s (fun k b=>(1≤k∧k≤i∧b<num s)∨(k=i+1∧b<a)) o) (fun o a=>better o ((walkN s (i+1) a).getD a 0) (i+1:Nat)) o (num s) (imp ho fun k b hb=>hb.elim id fun hh=>absurd hh.2 (yC _)) fun a ha o ho=>imp (better_ok h ho hi ha) fun k b hb=>by
   rcases hb with hb | ⟨e1,e2⟩
   ·exact .inl (.inl hb)
   ·by_cases g:b<a
    ·exact .inl (.inr ⟨e1,g⟩)
    ·exact .inr ⟨e1,by omega⟩
  refine imp this fun k b ⟨e1,e2,e3⟩ => ?_
  by_cases g:k≤i
  ·exact .inl ⟨e1,g,e3⟩
  ·exact .inr ⟨by omega,e3⟩
 exact fold_ind (fun i o=>ErrQ s (fun k b=>1≤k∧k≤i∧b<num s) o) (fun o i=>zDg s i o) (0,1) (num s) (imp start fun k b hb=>by omega) fun i hi o ho=>rowK i hi o ho
theorem least_err {s:Survey} (h:Sw s):ErrP s (leastF s).1 (leastF s).2:=by
 have ho:=least_ok h
 refine ⟨ho.den.1,ho.num0.1,fun l hl hs => ?_,ho.met⟩
 have hs':Simple (stepB s) l:=simple_ends hs
 have hlen:=hs'.short fun x hx=>(step_ne h (hl x hx)).2.2
 obtain ⟨u,hu⟩:=hs.closed
 have hun:u<num s:=by
  match l,hs.ne,hu,hl with
  | x :: l,_,hu,hl =>
   have e:(stepR s x).a=u:=hu.1
   have ea:(stepR s x).a=(stepB s x).a:=by unfold stepR stepB stepG;split <;> rfl
   rw [← e,ea];exact (step_ne h (hl x zO)).2.1
 have hpos:=List.length_pos_iff.2 hs.ne
 exact ho.most l u hl hs.ne hu hun hlen ⟨by omega,hlen,hun⟩
def bgS (s:Survey) (x:Stp):Int:=if x.back=true then (sightAt s x.sight).to else (sightAt s x.sight).frm
def enS (s:Survey) (x:Stp):Int:=if x.back=true then (sightAt s x.sight).frm else (sightAt s x.sight).to
def stpD:Stp:=⟨0,false⟩
def chainB (s:Survey) (l:List Stp):Bool:=(List.range l.length).all fun i=>(decide (i=0) || decide (bgS s (l.getD i stpD)=enS s (l.getD (i - 1) stpD))) && (List.range i).all fun k => !decide (enS s (l.getD k stpD)=enS s (l.getD i stpD))
def closedB (s:Survey) (l:List Stp):Bool:=decide (l.length > 1) && (chainB s l && decide (bgS s (l.getD 0 stpD)=enS s (l.getD (l.length - 1) stpD)))
def Lnk (s:Survey):List Stp→Prop
 | x :: y :: l=>bgS s y=enS s x∧Lnk s (y :: l)
 | _=>True
theorem lnk_iff {s:Survey}:∀ {l:List Stp},Lnk s l ↔ ∀ i,0<i→i<l.length→bgS s (l.getD i stpD)=enS s (l.getD (i - 1) stpD)
 | []=>⟨fun _ i _ h2=>absurd h2 (yC _),fun _=>trivial⟩
 | [x]=>⟨fun _ i h1 h2=>by simp at h2;omega,fun _=>trivial⟩
 | x :: y :: l=>by
  show (bgS s y=enS s x∧Lnk s (y :: l))↔_
  rw [lnk_iff (l:=y :: l)]
  constructor
  ·rintro ⟨h1,h2⟩ i hi hl
   match i,hi with
   | 1,_=>exact h1
   | i+2,_=>exact h2 (i+1) (by omega) (by simp at hl ⊢;omega)
  ·intro h
   exact ⟨h 1 (by decide) (by simp),fun i hi hl=>h (i+1) (by omega) (by simp at hl ⊢;omega) |>.trans (by
    obtain ⟨k,rfl⟩:∃ k,i=k+1:=⟨i - 1,by omega⟩
    rfl)⟩
theorem nodup_idx {α:Type} [DecidableEq α] (g:Stp→α):∀ {l:List Stp},(l.map g).Nodup ↔ ∀ i,i<l.length → ∀ k,k<i→g (l.getD k stpD)≠g (l.getD i stpD):=by
 intro l
 unfold List.Nodup
 rw [List.pairwise_iff_getElem]
 simp only [List.length_map,List.getElem_map]
 constructor
 ·intro h i hi k hk
  have:=h k i (by omega) hi hk
  rw [zI,zI,zF hi,zF (by omega:k<l.length)]
  exact this
 ·intro h k i hk hi hki
  have:=h i hi k hki
  rw [zI,zI,zF hi,zF hk] at this
  exact this
theorem zCv {s:Survey} {l:List Stp}:chainB s l=true↔Lnk s l∧(l.map (enS s)).Nodup:=by
 unfold chainB
 rw [lnk_iff,nodup_idx,qX]
 simp only [List.mem_range,zR,Bool.or_eq_true,decide_eq_true_eq,qX,Bool.not_eq_true',decide_eq_false_iff_not]
 constructor
 ·intro h
  exact ⟨fun i hi hl=>(h i hl).1.resolve_left (by omega),fun i hi k hk=>(h i hi).2 k hk⟩
 ·rintro ⟨h1,h2⟩ i hi
  refine ⟨?_,fun k hk=>h2 i hi k hk⟩
  by_cases e:i=0
  ·exact .inl e
  ·exact .inr (h1 i (by omega) hi)
def riseS (s:Survey) (x:Stp):Int:=if x.back=true then -(sightAt s x.sight).rise else (sightAt s x.sight).rise
theorem rise_step (s:Survey) (x:Stp):-(stepR s x).m=riseS s x:=by
 unfold stepR stepG riseS
 cases x.back
 ·show - -(sightAt s x.sight).rise=_;simp
 ·rfl
def stpAt (i:Nat):Stp:=⟨(i / 2:Nat),decide (i % 2=1)⟩
theorem stpAt_all {s:Survey} {x:Stp} (h:0≤x.sight∧x.sight<s.sights.length):∃ i,i<2 * s.sights.length∧stpAt i=x:=by
 obtain ⟨n,b⟩:=x
 have h1:0≤n∧n<s.sights.length:=h
 cases b with
 | false =>
  refine ⟨2 * n.toNat,by omega, ?_⟩
  unfold stpAt
  rw [show 2 * n.toNat / 2=n.toNat by omega,show 2 * n.toNat % 2=0 by omega]
  simp;omega
 | true =>
  refine ⟨2 * n.toNat+1,by omega, ?_⟩
  unfold stpAt
  rw [show (2 * n.toNat+1) / 2=n.toNat by omega,show (2 * n.toNat+1) % 2=1 by omega]
  simp;omega
theorem stpAt_in {s:Survey} {i:Nat} (h:i<2 * s.sights.length):0≤(stpAt i).sight∧(stpAt i).sight<s.sights.length:=by
 unfold stpAt
 exact ⟨by show (0:Int)≤((i / 2:Nat):Int);omega,by show ((i / 2:Nat):Int)<_;omega⟩
def goesB (s:Survey) (now:List Stp) (x:Stp):Bool:=chainB s (now ++ [x]) && decide (enS s x ≥ bgS s ((now ++ [x]).getD 0 stpD))
def greater (than:Int × Int) (sum n:Int):Int × Int:=if sum * than.2 > than.1 * n then (sum,n) else than
def worstF (s:Survey):Nat→List Stp→Int→Int × Int→Int × Int
 | 0,now,sum,than=>if closedB s now=true then greater than sum now.length else than
 | f+1,now,sum,than=>if closedB s now=true then greater than sum now.length else
  (List.range (2 * s.sights.length)).foldl (fun out i=>if goesB s now (stpAt i)=true then worstF s f (now ++ [stpAt i]) (sum+riseS s (stpAt i)) out else out) than
structure FrQ (s:Survey) (o:Int × Int):Prop where
 den:0<o.2∧o.2≤num s
 num0:0≤o.1∧o.1≤1000 * o.2
 met:o.1=0 ∨ ∃ l,StepsIn s l∧l≠[]∧(∃ u,Pth (stepR s) u l u)∧riseL s l * o.2=o.1 * l.length
theorem zCm {A B:List Stp} {j:Nat} (h:j<A.length):(A ++ B).getD j stpD=A.getD j stpD:=by
 rw [zI,qO h,← zI]
def redF (o:Int × Int):Int × Int:=(((o.1.toNat / Nat.gcd o.1.toNat o.2.toNat:Nat):Int),((o.2.toNat / Nat.gcd o.1.toNat o.2.toNat:Nat):Int))
structure RedP (s:Survey) (o:Int × Int):Prop where
 err:ErrP s o.1 o.2
 den:1≤o.2∧o.2≤num s
 num0:0≤o.1∧o.1≤1000 * o.2
theorem red_ok {s:Survey} {o:Int × Int} (he:ErrP s o.1 o.2) (hd:o.2≤num s) (hn:o.1≤1000 * o.2):RedP s (redF o):=by
 obtain ⟨a,b⟩:=o
 have h1:0≤a:=he.num0
 have h2:0<b:=he.den
 obtain ⟨a,rfl⟩:∃ n:Nat,a=n:=⟨a.toNat,by omega⟩
 obtain ⟨b,rfl⟩:∃ n:Nat,b=n:=⟨b.toNat,by omega⟩
 have hb:0<b:=by omega
 have g1:0<Nat.gcd a b:=Nat.gcd_pos_of_pos_right a hb
 have ea:a=Nat.gcd a b * (a / Nat.gcd a b):=(Nat.mul_div_cancel' (Nat.gcd_dvd_left a b)).symm
 have eb:b=Nat.gcd a b * (b / Nat.gcd a b):=(Nat.mul_div_cancel' (Nat.gcd_dvd_right a b)).symm
 have er:redF ((a:Int),(b:Int))=(((a / Nat.gcd a b:Nat):Int),((b / Nat.gcd a b:Nat):Int)):=by unfold redF;simp only [qQ]
 rw [er]
 generalize hx:a / Nat.gcd a b=x at *
 generalize hy:b / Nat.gcd a b=y at *
 generalize Nat.gcd a b=g at *
 have hy0:0<y:=Nat.pos_of_ne_zero fun h0=>by subst h0;simp at eb;omega
 have eai:(a:Int)=g * x:=by rw [ea];exact Int.natCast_mul g x
 have ebi:(b:Int)=g * y:=by rw [eb];exact Int.natCast_mul g y
 have hg:(0:Int)<g:=by omega
 have hmost:=he.most
 have hmet:=he.met
 have hd':(b:Int)≤num s:=hd
 have hn':(a:Int)≤1000 * (b:Int):=hn
 rw [eai] at hmet
 rw [ebi] at hmet
 have cancel:∀ u v:Int,g * u≤g * v→u≤v:=fun u v h=>Int.le_of_mul_le_mul_left h hg
 have cancelE:∀ u v:Int,g * u=g * v→u=v:=fun u v h=>Int.le_antisymm (cancel u v (Int.le_of_eq h)) (cancel v u (Int.le_of_eq h.symm))
 have ass1:∀ r:Int,r * (g * (y:Int))=g * (r * y):=fun r=>by rw [← qZ,Int.mul_comm r g,qZ]
 refine ⟨⟨by show (0:Int)<(y:Int);omega,by show (0:Int)≤(x:Int);omega,fun l hl hs => ?_, ?_⟩,⟨by show (1:Int)≤(y:Int);omega, ?_⟩,⟨by show (0:Int)≤(x:Int);omega, ?_⟩⟩
 ·have:=hmost l hl hs
  have h':riseL s l * (b:Int)≤(a:Int) * l.length:=this
  rw [eai,ebi,ass1,qZ] at h'
  exact cancel _ _ h'
 ·rcases hmet with h0 | ⟨l,l1,l2,l3,l4⟩
  ·left
   have h0':(g:Int) * x=g * 0:=by rw [Int.mul_zero];exact h0
   exact cancelE _ _ h0'
  ·right
   refine ⟨l,l1,l2,l3, ?_⟩
   have h':riseL s l * (g * (y:Int))=g * (x:Int) * l.length:=l4
   rw [ass1,qZ] at h'
   exact cancelE _ _ h'
 ·show (y:Int)≤num s
  have hyb:y≤b:=by
   rw [eb];exact Nat.le_mul_of_pos_left y g1
  omega
 ·show (x:Int)≤1000 * (y:Int)
  rw [eai,ebi,← qZ,Int.mul_comm 1000 (g:Int),qZ] at hn'
  exact cancel _ _ hn'
def errF (s:Survey):Int × Int:=redF (leastF s)
theorem err_ok {s:Survey} (h:Sw s):RedP s (errF s):=by
 have:=least_ok h
 exact red_ok (least_err h) this.den.2 this.num0.2
def flip (x:Stp):Stp:=⟨x.sight,!x.back⟩
theorem flip_in {s:Survey} {l:List Stp} (h:StepsIn s l):StepsIn s (l.reverse.map flip):=fun x hx=>by
 obtain ⟨y,hy,rfl⟩:=List.mem_map.1 hx
 exact h y (List.mem_reverse.1 hy)
theorem flip_ends (s:Survey) (p q:Sight→Int) (x:Stp):(stepG p q s (flip x)).a=(stepG p q s x).b∧(stepG p q s (flip x)).b=(stepG p q s x).a:=by
 unfold stepG flip
 cases x.back <;> exact ⟨rfl,rfl⟩
theorem flip_pth {s:Survey} {p q:Sight→Int}:∀ {l:List Stp} {u v:Nat},Pth (stepG p q s) u l v→Pth (stepG p q s) v (l.reverse.map flip) u
 | [],u,v,h=>h.symm
 | x :: l,u,v,h=>by
  obtain ⟨h1,h2⟩:=h
  have:=flip_pth h2
  rw [List.reverse_cons,qP]
  obtain ⟨e1,e2⟩:=flip_ends s p q x
  exact zBn.2 ⟨_,this,e1,by show (stepG p q s (flip x)).b=u;rw [e2];exact h1⟩
theorem flip_rise (s:Survey):∀ l:List Stp,riseL s (l.reverse.map flip) = -riseL s l
 | []=>rfl
 | x :: l=>by
  rw [List.reverse_cons,qP,rise_app,flip_rise s l]
  have e1:riseL s (List.map flip [x])=riseS s (flip x):=by
   show -((stepR s (flip x)).m+0)=_
   rw [← rise_step];omega
  have e2:riseL s (x :: l)=riseS s x+riseL s l:=by
   rw [← rise_step]
   show -((stepR s x).m+tot (stepR s) l)=_
   unfold riseL;omega
  have e3:riseS s (flip x) = -riseS s x:=by
   unfold riseS flip
   cases x.back <;> simp
  rw [e1,e2,e3];omega
def evenB (s:Survey) (by' off:Int):List Bd:=s.sights.flatMap (sightD by' off)
theorem mem_evenB {s:Survey} {d o:Int} {c:Bd}:c∈evenB s d o ↔ ∃ x∈s.sights,c=⟨x.frm.toNat,x.to.toNat,x.rise * d+o⟩∨c=⟨x.to.toNat,x.frm.toNat,o - x.rise * d⟩:=by
 unfold evenB sightD
 simp only [List.mem_flatMap,yL,yE,or_false]
abbrev stepE (s:Survey) (d o:Int):Stp→Bd:=stepG (fun y=>y.rise * d+o) (fun y=>o - y.rise * d) s
theorem mem_stepE {s:Survey} {d o:Int} {c:Bd} (h:c∈evenB s d o):∃ x:Stp,(0≤x.sight∧x.sight<s.sights.length)∧stepE s d o x=c:=by
 obtain ⟨y,hy,hc⟩:=mem_evenB.1 h
 obtain ⟨i,hi,rfl⟩:=List.mem_iff_getElem.1 hy
 have e:sightAt s (i:Int)=s.sights[i]:=by
  unfold sightAt
  rw [qQ,zI,zF hi];rfl
 rcases hc with rfl | rfl
 ·exact ⟨⟨i,false⟩,⟨by show (0:Int)≤i;omega,by show (i:Int)<_;omega⟩,by unfold stepE stepG;rw [e];rfl⟩
 ·exact ⟨⟨i,true⟩,⟨by show (0:Int)≤i;omega,by show (i:Int)<_;omega⟩,by unfold stepE stepG;rw [e];rfl⟩
theorem stepsE_of {s:Survey} {d o:Int}:∀ m:List Bd,(∀ c∈m,c∈evenB s d o) → ∃ l:List Stp,StepsIn s l∧l.map (stepE s d o)=m
 | [],_=>⟨[],fun x hx=>(by cases hx),rfl⟩
 | c :: m,h=>by
  obtain ⟨x,hx,e⟩:=mem_stepE (h c zO)
  obtain ⟨l,hl,e2⟩:=stepsE_of m fun d hd=>h d (zQ _ hd)
  refine ⟨x :: l,fun y hy => ?_,by rw [List.map_cons,e,e2]⟩
  rcases List.mem_cons.1 hy with rfl | hy
  ·exact hx
  ·exact hl y hy
theorem tot_stepE (s:Survey) (d o:Int):∀ l:List Stp,tot (stepE s d o) l=riseL s l * d+o * l.length
 | []=>by simp [tot,riseL]
 | x :: l=>by
  have e1:(stepE s d o x).m=riseS s x * d+o:=by
   unfold stepE stepG riseS
   cases x.back
   ·rfl
   ·show o - (sightAt s x.sight).rise * d = -(sightAt s x.sight).rise * d+o
    rw [Int.neg_mul];omega
  have e2:riseL s (x :: l)=riseS s x+riseL s l:=by
   rw [← rise_step]
   show -((stepR s x).m+tot (stepR s) l)=_
   unfold riseL;omega
  show (stepE s d o x).m+tot (stepE s d o) l=_
  rw [e1,tot_stepE s d o l,e2,Int.add_mul,zT,Int.natCast_add,Int.mul_add]
  omega
theorem even_oks {s:Survey} (h:Sw s) {d o:Int} (hd:1≤d∧d≤8) (ho:0≤o∧o≤8000):Oks (num s) (evenB s d o):=fun c hc=>by
 obtain ⟨x,hx,hc⟩:=mem_evenB.1 hc
 have hs:=h.sights x hx
 have h1:=hs.frm;have h2:=hs.to;have h3:=hs.ne;have h4:=hs.rise
 have b1:x.rise * d≤1000 * 8:=yP (qR h4.2 (by omega)) (by omega)
 have b2:-8000≤x.rise * d:=by
  have:-1000 * d≤x.rise * d:=qR h4.1 (by omega)
  omega
 rcases hc with rfl | rfl
 ·exact ⟨by show x.frm.toNat<s.stations.toNat;omega,by show x.to.toNat<s.stations.toNat;omega,by show x.frm.toNat≠x.to.toNat;omega,by show -20000≤x.rise * d+o;omega,by show x.rise * d+o≤20000;omega⟩
 ·exact ⟨by show x.to.toNat<s.stations.toNat;omega,by show x.frm.toNat<s.stations.toNat;omega,by show x.to.toNat≠x.frm.toNat;omega,by show -20000≤o - x.rise * d;omega,by show o - x.rise * d≤20000;omega⟩
theorem err_bd {s:Survey} (h:Sw s) {o:Int × Int} (hr:RedP s o):(1≤o.2∧o.2≤8)∧0≤o.1∧o.1≤8000:=by
 have h8:=h.num8
 have h1:=hr.den;have h2:=hr.num0
 omega
theorem even_some {s:Survey} (h:Sw s) {o:Int × Int} (hr:RedP s o):∃ V,clo (num s) (evenB s o.2 o.1)=some V:=by
 obtain ⟨b1,b2⟩:=err_bd h hr
 cases hV:clo (num s) (evenB s o.2 o.1) with
 | some V=>exact ⟨V,rfl⟩
 | none =>
  exfalso
  obtain ⟨m,m1,m2,m3⟩:=clo_none (even_oks h b1 b2) hV
  obtain ⟨l,l1,rfl⟩:=stepsE_of m m2
  have hs:Simple (stepE s o.2 o.1) l:=simple_map.1 m1
  rw [tot_map,tot_stepE] at m3
  obtain ⟨u,hu⟩:=hs.closed
  have hu2:Pth (stepR s) u l u:=pth_ends.1 hu
  have:=hr.err.walk (flip_in l1) (fun e=>hs.ne (by
   rw [List.map_eq_nil_iff,List.reverse_eq_nil_iff] at e;exact e)) ⟨u,flip_pth hu2⟩
  rw [flip_rise,Int.neg_mul,List.length_map,List.length_reverse] at this
  omega
end Go.Lv
end
