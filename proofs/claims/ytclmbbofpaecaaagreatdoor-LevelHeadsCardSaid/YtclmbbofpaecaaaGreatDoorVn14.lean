/- Part 14 of the proof. -/
import Derived.Test.YtclmbbofpaecaaaGreatDoorVn13
import Derived.Test.YtclmbbofpaecaaaGreatDoorVn8
import Derived.RecoverIn
set_option linter.all false
set_option linter.unusedVariables false
set_option linter.unusedSimpArgs false
set_option linter.unusedSectionVars false
open Array renaming getD_eq_getD_getElem? → zZ, getElem?_append_left → yR
open Bool renaming and_eq_true → zT
open Int renaming le_refl → qZ, le_trans → yQ
open List renaming getElem?_eq_getElem → zF, getD_eq_getElem?_getD → zG, all_cons → zL, getElem?_eq_none → zN, all_nil → zO, mem_cons_self → zP, mem_cons_of_mem → zR, length_cons → zW, getElem?_append_left → qJ, getElem?_map → qK, getElem?_range → qR, cons_append → qX, nil_append → yB, getElem?_set → yC, getElem?_replicate → yD, all_eq_true → yG
open Nat renaming reduceLeDiff → zA, reduceEqDiff → zB, reduceAdd → zC, reduceBEq → zD, le_of_ble_eq_true → zE, le_refl → zM, lt_or_ge → zU, zero_le → qG
open Option renaming getD_some → qD
open Option.some renaming injEq → yT
open Go.Result renaming andThen_ok → yU
open Go.Sem renaming run_bind → yV
open Go.Sem renaming run_pure → yW
section
namespace Go.Fw
structure Bd where
 a:Nat
 b:Nat
 m:Int
def Bd.holds (c:Bd) (x:Nat→Int):Prop:=x c.b - x c.a≤c.m
def addc (W:Mat) (c:Bd):Mat:=put W c.a c.b (min (ent W c.a c.b) c.m)
structure Good (far U B:Int) (n:Nat) (W:Mat):Prop where
 sq:Sq n W
 diag:∀ i,i<n→ent W i i=0
 high:∀ i j,i<n→j<n→ent W i j≤far
 small:∀ i j,i<n→j<n→ent W i j<far→ent W i j≤U
 low:∀ i j,i<n→j<n → -B≤ent W i j
structure Bd.Ok (U B:Int) (n:Nat) (c:Bd):Prop where
 a:c.a<n
 b:c.b<n
 ne:c.a≠c.b
 low:-B≤c.m
 high:c.m≤U
theorem ent_addc {n:Nat} {W:Mat} (h:Sq n W) {c:Bd} (ha:c.a<n) (hb:c.b<n) (i j:Nat):ent (addc W c) i j=if i=c.a∧j=c.b then min (ent W c.a c.b) c.m else ent W i j:=
 ent_put h ha hb _ i j
theorem Good.addc {far U B:Int} {n:Nat} {W:Mat} (h:Good far U B n W) {c:Bd} (hc:c.Ok U B n):Good far U B n (addc W c):=by
 have e:=ent_addc h.sq hc.a hc.b
 refine ⟨h.sq.put _ _ _,fun i hi => ?_,fun i j hi hj => ?_,fun i j hi hj hlt => ?_,fun i j hi hj => ?_⟩
 ·rw [e,if_neg (by have:=hc.ne;omega)];exact h.diag i hi
 ·rw [e];split
  ·rename_i g;have:=h.high i j hi hj;rw [g.1,g.2] at this;omega
  ·exact h.high i j hi hj
 ·rw [e] at hlt ⊢;split
  ·have:=hc.high;omega
  ·rename_i g;rw [if_neg g] at hlt;exact h.small i j hi hj hlt
 ·rw [e];split
  ·rename_i g;have:=h.low i j hi hj;rw [g.1,g.2] at this;have:=hc.low;omega
  ·exact h.low i j hi hj
theorem Good.fold {far U B:Int} {n:Nat}:∀ {cs:List Bd} {W:Mat},Good far U B n W→(∀ c∈cs,c.Ok U B n)→Good far U B n (cs.foldl Fw.addc W)
 | [],_,h,_=>h
 | c :: cs,_,h,hc=>(h.addc (hc c zP)).fold fun d hd=>hc d (zR _ hd)
theorem obeys_addc {far U B:Int} {n:Nat} {W:Mat} (h:Good far U B n W) {c:Bd} (hc:c.Ok U B n) (hU:U<far) (x:Nat→Int) :
  Obeys far n (addc W c) x↔Obeys far n W x∧c.holds x:=by
 have e:=ent_addc h.sq hc.a hc.b
 constructor
 ·intro ho
  refine ⟨fun i j hi hj hlt => ?_, ?_⟩
  ·have:=ho i j hi hj
   rw [e] at this
   by_cases g:i=c.a∧j=c.b
   ·rw [if_pos g] at this
    rw [g.1,g.2] at hlt this ⊢
    have:=this (by omega)
    omega
   ·rw [if_neg g] at this;exact this hlt
  ·have:=ho c.a c.b hc.a hc.b
   rw [e,if_pos ⟨rfl,rfl⟩] at this
   have hh:=hc.high
   have:=this (by omega)
   unfold Bd.holds;omega
 ·rintro ⟨ho,hh⟩ i j hi hj hlt
  rw [e] at hlt ⊢
  by_cases g:i=c.a∧j=c.b
  ·rw [if_pos g] at hlt ⊢
   rw [g.1,g.2]
   unfold Bd.holds at hh
   rcases Int.le_total (ent W c.a c.b) c.m with q | q
   ·rw [Int.min_eq_left q] at hlt ⊢;exact ho _ _ hc.a hc.b hlt
   ·rw [Int.min_eq_right q];exact hh
  ·rw [if_neg g] at hlt ⊢;exact ho i j hi hj hlt
theorem obeys_fold {far U B:Int} {n:Nat} (hU:U<far) (x:Nat→Int):∀ {cs:List Bd} {W:Mat},Good far U B n W→(∀ c∈cs,c.Ok U B n) →
  (Obeys far n (cs.foldl addc W) x↔Obeys far n W x ∧ ∀ c∈cs,c.holds x)
 | [],W,h,_=>by simp
 | c :: cs,W,h,hc=>by
  have h1:=hc c zP
  rw [List.foldl_cons,obeys_fold hU x (h.addc h1) fun d hd=>hc d (zR _ hd),obeys_addc h h1 hU]
  simp only [List.forall_mem_cons]
  exact and_assoc
def base (far:Int) (n:Nat):Mat:=(List.range n).map fun a=>(List.replicate n far).set a 0
theorem ent_base {far:Int} {n i j:Nat} (hi:i<n) (hj:j<n):ent (base far n) i j=if i=j then 0 else far:=by
 unfold ent base
 have e:(List.map (fun a=>(List.replicate n far).set a 0) (List.range n)).getD i []=(List.replicate n far).set i 0:=by
  rw [zG,qK,qR hi];rfl
 rw [e,zG,yC]
 by_cases h:i=j
 ·subst h;simp [hi]
 ·rw [if_neg h,if_neg h,yD,if_pos hj];rfl
theorem Good.base {far U B:Int} {n:Nat} (hf:0<far) (hU:0≤U) (hB:0≤B):Good far U B n (base far n):=by
 refine ⟨⟨by simp [Fw.base],fun i r h => ?_⟩,fun i hi=>by rw [ent_base hi hi,if_pos rfl],fun i j hi hj => ?_,fun i j hi hj => ?_,fun i j hi hj => ?_⟩
 ·have:=List.mem_of_getElem? h
  simp only [Fw.base,List.mem_map] at this
  obtain ⟨a,_,rfl⟩:=this
  simp
 ·rw [ent_base hi hj];split <;> omega
 ·rw [ent_base hi hj];split <;> omega
 ·rw [ent_base hi hj];split <;> omega
theorem obeys_base (far:Int) (n:Nat) (x:Nat→Int):Obeys far n (base far n) x:=by
 intro i j hi hj hlt
 rw [ent_base hi hj] at hlt ⊢
 split
 ·rename_i e;subst e;omega
 ·rename_i e;rw [if_neg e] at hlt;omega
theorem addc_le {n:Nat} {W:Mat} (h:Sq n W) {c:Bd} (ha:c.a<n) (hb:c.b<n) (i j:Nat):ent (addc W c) i j≤ent W i j:=by
 rw [ent_addc h ha hb];split
 ·rename_i g;rw [g.1,g.2];omega
 ·omega
theorem fold_le {n:Nat}:∀ {cs:List Bd} {W:Mat},Sq n W→(∀ c∈cs,c.a<n∧c.b<n) → ∀ i j,ent (cs.foldl addc W) i j≤ent W i j
 | [],_,_,_,_,_=>qZ _
 | c :: cs,W,h,hc,i,j=>by
  have h1:=hc c zP
  exact yQ (fold_le (h.put _ _ _) (fun d hd=>hc d (zR _ hd)) i j) (addc_le h h1.1 h1.2 i j)
theorem fold_mem {n:Nat}:∀ {cs:List Bd} {W:Mat},Sq n W→(∀ c∈cs,c.a<n∧c.b<n) → ∀ c∈cs,ent (cs.foldl addc W) c.a c.b≤c.m
 | d :: cs,W,h,hc,c,hm=>by
  have h1:=hc d zP
  rcases List.mem_cons.1 hm with rfl | hm
  ·refine yQ (fold_le (h.put _ _ _) (fun d hd=>hc d (zR _ hd)) _ _) ?_
   show ent (addc W c) c.a c.b≤_
   rw [ent_addc h h1.1 h1.2,if_pos ⟨rfl,rfl⟩];omega
  ·exact fold_mem (h.put _ _ _) (fun d hd=>hc d (zR _ hd)) c hm
end Go.Fw
end
section
namespace Go.Av.Fx
open Go Go.Av Go.Av.Tb Go.Proofs
open Go.Fw (Sq ent upd row stage upto closed)
def far:Int:=1099511627776
def row0 (n a:Nat):List Int:=(List.replicate n far).set a 0
def mat0 (n m:Nat):List (List Int):=(List.range m).map (row0 n)
def putB (R:List (List Int)) (x:Bound):List (List Int):=Fw.addc R ⟨x.a.toNat,x.b.toNat,x.most⟩
theorem sq_mat0 (n:Nat):Sq n (mat0 n n):=(Fw.Good.base (far:=far) (U:=0) (B:=0) (by decide) (qZ _) (qZ _)).sq
def bd (x:Bound):Fw.Bd:=⟨x.a.toNat,x.b.toNat,x.most⟩
def bsM (n:Nat) (bs:List Bound):Fw.Mat:=(bs.map bd).foldl Fw.addc (Fw.base far n)
theorem bsM_eq (n:Nat) (bs:List Bound):bs.foldl putB (mat0 n n)=bsM n bs:=by
 unfold bsM;rw [List.foldl_map];rfl
theorem bsM_low (n:Nat) (X:Int) (hX:0≤X) (bs:List Bound) (hin:∀ x∈bs,0≤x.a∧x.a<n∧0≤x.b∧x.b<n) (hm:∀ x∈bs,-X≤x.most):∀ i j,i<n→j<n → -X≤ent (bsM n bs) i j:=by
 unfold bsM
 have:∀ (bs:List Bound) (W:Fw.Mat),Sq n W→(∀ i j,i<n→j<n → -X≤ent W i j)→(∀ x∈bs,0≤x.a∧x.a<n∧0≤x.b∧x.b<n)→(∀ x∈bs,-X≤x.most) → ∀ i j,i<n→j<n → -X≤ent ((bs.map bd).foldl Fw.addc W) i j:=by
  intro bs
  induction bs with
  | nil=>exact fun W _ h _ _=>h
  | cons x bs ih =>
   intro W hW h h1 h2
   have hx:=h1 x zP
   refine ih _ (hW.put _ _ _) (fun i j hi hj => ?_) (fun y hy=>h1 y (zR _ hy)) (fun y hy=>h2 y (zR _ hy))
   rw [Fw.ent_addc hW (c:=bd x) (by show x.a.toNat<n;omega) (by show x.b.toNat<n;omega)]
   split
   ·have:=h _ _ (show (bd x).a<n by show x.a.toNat<n;omega) (show (bd x).b<n by show x.b.toNat<n;omega)
    have h3:-X≤(bd x).m:=h2 x zP
    omega
   ·exact h i j hi hj
 refine this bs _ (sq_mat0 n) (fun i j hi hj => ?_) hin hm
 rw [Fw.ent_base hi hj]
 split
 ·omega
 ·show -X≤1099511627776;omega
theorem bsM_high (n:Nat) (bs:List Bound) (hin:∀ x∈bs,0≤x.a∧x.a<n∧0≤x.b∧x.b<n) (i j:Nat) (hi:i<n) (hj:j<n):ent (bsM n bs) i j≤far:=by
 unfold bsM
 refine yQ (Fw.fold_le (sq_mat0 n) (fun c hc => ?_) i j) ?_
 ·obtain ⟨x,hx,rfl⟩:=List.mem_map.1 hc
  have:=hin x hx
  exact ⟨by show x.a.toNat<n;omega,by show x.b.toNat<n;omega⟩
 ·rw [show mat0 n n=Fw.base far n from rfl,Fw.ent_base hi hj]
  split
  ·decide
  ·exact qZ _
theorem zBe {n:Nat} {V:Fw.Mat} (h:Sq n V) {a b:Nat} (ha:a<n) (hb:b<n):(ints (V.getD a []))[b]? = some (.int .i64 (ent V a b)):=by
 rw [ints_get]
 have:=h.getD ha
 unfold ent
 rw [zG (l:=V.getD a []),zF (by omega)];rfl
end Go.Av.Fx
end
section
namespace Go.Av.Fx
open Go Go.Av Go.Av.Tb Go.Proofs
open Go.Fw (Sq ent Bd)
structure Ln (l:LLine):Prop where
 pts:1≤l.gives.length∧l.gives.length≤5
 cts:l.counts.length≤8
 least:1≤l.least∧l.least≤l.most
 most:l.most≤60
 taps:0≤l.taps∧l.taps≤2
 gives:∀ g∈l.gives,0≤g∧g≤60
 counts:∀ c∈l.counts,(0≤c.point∧c.point≤l.gives.length)∧0≤c.low∧c.low≤c.high∧c.high≤400
theorem inB_iff {n lo hi:Int}:inB n lo hi=true↔lo≤n∧n≤hi:=by
 simp [inB]
theorem Ln.ok {l:LLine} (h:Ln l):okLine l:=by
 have:=h.pts;have:=h.cts;exact ⟨by show _<_;omega,by show _<_;omega⟩
def lowL (l:LLine) (set:List Int) (i:Nat):Int:=if set.contains (i:Int)=true then l.gives.getD i 0+l.least else l.gives.getD i 0
def highL (l:LLine) (set:List Int) (i:Nat):Int:=if set.contains (i:Int)=true then l.gives.getD i 0+l.most else l.gives.getD i 0
def lineB (l:LLine) (set:List Int) (b dry:Nat):List Bd:=
 ⟨dry,b,400⟩ :: ((List.range l.gives.length).flatMap (fun i=>[⟨b+i,b+i+1,-lowL l set i⟩,⟨b+i+1,b+i,highL l set i⟩]) ++
  (List.range (l.gives.length+1)).map (fun p=>⟨b+p,dry,0⟩) ++ l.counts.flatMap (fun c=>[⟨dry,b+c.point.toNat,c.high⟩,⟨b+c.point.toNat,dry,-c.low⟩]))
theorem Ln.give {l:LLine} (h:Ln l) (i:Nat):0≤l.gives.getD i 0∧l.gives.getD i 0≤60:=by
 rw [zG]
 cases hx:l.gives[i]? with
 | none=>simp
 | some g=>exact h.gives g (List.mem_of_getElem? hx)
theorem Ln.low {l:LLine} (h:Ln l) (set:List Int) (i:Nat):0≤lowL l set i∧lowL l set i≤highL l set i∧highL l set i≤120:=by
 have:=h.give i;have:=h.least;have:=h.most
 unfold lowL highL;split <;> omega
def closeC (n:Nat) (cs:List Bd):Option Fw.Mat:=Fw.closed far n (cs.foldl Fw.addc (Fw.base far n))
def explM (l:LLine) (set:List Int):Option Fw.Mat:=if (set.length:Int) > l.taps then none else closeC (l.gives.length+2) (lineB l set 0 (l.gives.length+1))
end Go.Av.Fx
end
section
namespace Go.Av.Fx
open Go Go.Av Go.Av.Tb Go.Proofs
open Go.Fw (Sq ent Bd Mat)
@[go_sem] theorem one_int (k:IntKind) (n:Int):AV.one (.int k n)=true:=rfl
@[go_sem] theorem one_bool (b:Bool):AV.one (.bool b)=true:=rfl
@[go_sem] theorem one_str (b:ByteArray):AV.one (.str b)=true:=rfl
@[go_sem] theorem one_slice (l:List AV) (n:Nat) (t:Tail):AV.one (.slice l n t)=true:=rfl
@[go_sem] theorem one_nilS:AV.one .nilS=true:=rfl
@[go_sem] theorem one_sref (i o n c:Nat):AV.one (.sref i o n c)=true:=rfl
@[go_sem] theorem one_ref (i o:Nat):AV.one (.ref i o)=true:=rfl
@[go_sem] theorem one_eptr (l:List AV) (o:Nat):AV.one (.eptr l o)=true:=rfl
@[go_sem] theorem one_func (f:Fn) (a b:List AV):AV.one (.func f a b)=true:=rfl
@[go_sem] theorem one_nilFunc:AV.one .nilFunc=true:=rfl
@[go_sem] theorem one_iface (t:TypeId) (v:AV):AV.one (.iface t v)=true:=rfl
@[go_sem] theorem one_map (i:Nat):AV.one (.map i)=true:=rfl
@[go_sem] theorem cl_agg (l:List AV):AV.cells (.agg l)=l:=rfl
@[go_sem] theorem cl_int (k:IntKind) (n:Int):AV.cells (.int k n)=[.int k n]:=rfl
@[go_sem] theorem cl_bool (b:Bool):AV.cells (.bool b)=[.bool b]:=rfl
@[go_sem] theorem cl_str (b:ByteArray):AV.cells (.str b)=[.str b]:=rfl
@[go_sem] theorem cl_slice (l:List AV) (n:Nat) (t:Tail):AV.cells (.slice l n t)=[.slice l n t]:=rfl
@[go_sem] theorem cl_nilS:AV.cells .nilS=[.nilS]:=rfl
@[go_sem] theorem cl_sref (i o n c:Nat):AV.cells (.sref i o n c)=[.sref i o n c]:=rfl
@[go_sem] theorem cl_ref (i o:Nat):AV.cells (.ref i o)=[.ref i o]:=rfl
@[go_sem] theorem cl_eptr (l:List AV) (o:Nat):AV.cells (.eptr l o)=[.eptr l o]:=rfl
@[go_sem] theorem cl_func (f:Fn) (a b:List AV):AV.cells (.func f a b)=[.func f a b]:=rfl
@[go_sem] theorem cl_nilFunc:AV.cells .nilFunc=[.nilFunc]:=rfl
@[go_sem] theorem cl_iface (t:TypeId) (v:AV):AV.cells (.iface t v)=[.iface t v]:=rfl
@[go_sem] theorem cl_map (i:Nat):AV.cells (.map i)=[.map i]:=rfl
theorem cells_one {v:AV} (h:AV.one v=true):AV.cells v=[v]:=by cases v <;> first | rfl | cases h
section
variable (a b c:Int) (l m:List AV) (n k:Nat) (t u:Tail) (x0 x1 x2 x3 x4:AV)
@[go_sem] theorem bd42_:buildA T 28 []=some (.agg [.int .i64 0,.int .i64 0]):=rfl
@[go_sem] theorem bd42_2:buildA T 28 [(0,.int .i64 a),(1,.int .i64 b)]=some (.agg [.int .i64 a,.int .i64 b]):=rfl
@[go_sem] theorem bd128_2:buildA T 155 [(0,.int .i64 a),(1,.int .i64 b)]=some (.agg [.int .i64 a,.int .i64 b]):=rfl
@[go_sem] theorem bs22_3:zAe T 32 3 [(0,.int .i64 a),(1,.int .i64 b),(2,.int .i64 c)]=some (.slice [.int .i64 a,.int .i64 b,.int .i64 c] 3 .exact):=rfl
@[go_sem] theorem bs22_0:zAe T 32 0 []=some (.slice [] 0 .exact):=rfl
@[go_sem] theorem bs126_1:zAe T 153 1 [(0,.agg [.int .i64 a,.int .i64 b])]=some (.slice [.int .i64 a,.int .i64 b] 1 .exact):=rfl
@[go_sem] theorem bs32_1:zAe T 35 1 [(0,.slice l n t)]=some (.slice [.slice l n t] 1 .exact):=rfl
@[go_sem] theorem bs32_1n:zAe T 35 1 [(0,.nilS)]=some (.slice [.nilS] 1 .exact):=rfl
@[go_sem] theorem bs32_3 (o:List AV) (q:Nat) (v:Tail):zAe T 35 3 [(0,.slice l n t),(1,.slice m k u),(2,.slice o q v)]=some (.slice [.slice l n t,.slice m k u,.slice o q v] 3 .exact):=rfl
@[go_sem] theorem bs93_1 (i o:Nat):zAe T 106 1 [(0,.sref i o n k)]=some (.slice [.sref i o n k] 1 .exact):=rfl
end
abbrev wS (W:Mat):AV:=.slice (W.map sl) W.length .unk
structure Span where
 low:Int
 high:Int
 deriving DecidableEq
@[simp] theorem wS_bnd (n k:Nat) (W:Mat):bndL n k (W.map sl)=true:=bndL_map _ (fun _=>by simp [AV.bnd]) W
theorem zDl {n:Nat} {W:Mat} (h:Sq n W) {a:Nat} (ha:a<n):(W.map sl)[a]? = some (sl (W.getD a [])):=by
 have hl:a<W.length:=by rw [h.1];exact ha
 rw [qK,zF hl,zG,zF hl];rfl
def spanM (W:Mat) (a b:Nat):Span:=⟨w64 (0 - ent W b a),ent W a b⟩
abbrev Theft:=List Int × Mat
abbrev thC (t:Theft):List AV:=[sl t.1,wS t.2]
def thefts (L:List Theft):List AV:=L.flatMap thC
@[simp] theorem thefts_bnd (n k:Nat) (L:List Theft):bndL n k (thefts L)=true:=zBb _ (fun t=>by simp [bndL,AV.bnd]) L
abbrev lnC (l:LLine) (L:List Theft):List AV:=[sl l.gives,.int .i64 l.least,.int .i64 l.most,.int .i64 l.taps,.slice (cnts l.counts) l.counts.length .unk,.slice (thefts L) L.length .unk]
attribute [go_sem] lnC thC
mutual
theorem zCl {n k n' k':Nat} (hn:n≤n') (hk:k≤k'):∀ v:AV,v.bnd n k=true→v.bnd n' k'=true
 | .ref i o,h=>by simp only [AV.bnd,decide_eq_true_iff] at h ⊢;omega
 | .sref i _ _ _,h=>by simp only [AV.bnd,decide_eq_true_iff] at h ⊢;omega
 | .map i,h=>by simp only [AV.bnd,decide_eq_true_iff] at h ⊢;omega
 | .eptr l _,h=>by simp only [AV.bnd] at h ⊢;exact bndL_le hn hk l h
 | .slice l _ .unk,h=>by simp only [AV.bnd] at h ⊢;exact bndL_le hn hk l h
 | .slice l _ .exact,h=>by simp only [AV.bnd] at h ⊢;exact bndL_le hn hk l h
 | .slice l _ (.tok j),h=>by
  simp only [AV.bnd,zT,decide_eq_true_iff] at h ⊢
  exact ⟨bndL_le hn hk l h.1,by omega⟩
 | .func _ a b,h=>by
  simp only [AV.bnd,zT] at h ⊢
  exact ⟨bndL_le hn hk a h.1,bndL_le hn hk b h.2⟩
 | .iface _ v,h=>by simp only [AV.bnd] at h ⊢;exact zCl hn hk v h
 | .agg l,h=>by simp only [AV.bnd] at h ⊢;exact bndL_le hn hk l h
 | .tuple l,h=>by simp only [AV.bnd] at h ⊢;exact bndL_le hn hk l h
 | .bool _,_=>rfl
 | .int _ _,_=>rfl
 | .str _,_=>rfl
 | .nilp,_=>rfl
 | .nilS,_=>rfl
 | .nilFunc,_=>rfl
 | .nilIface,_=>rfl
 | .nilMap,_=>rfl
theorem bndL_le {n k n' k':Nat} (hn:n≤n') (hk:k≤k'):∀ l:List AV,bndL n k l=true→bndL n' k' l=true
 | [],_=>rfl
 | v :: l,h=>by
  simp only [bndL,zT] at h ⊢
  exact ⟨zCl hn hk v h.1,bndL_le hn hk l h.2⟩
end
end Go.Av.Fx
end
section
namespace Go.Av
open Go
def Env.iter (E:Env) (S:St) (l:Nat) (Y:List AV→St→(AV→St→Prop)→Prop) (C:Cx→Prop):Env:=
 {E with base:=S.heap.length,bt:=S.nt,R:=none,Y:=fun l' args S2 R2=>l'=l∧Y args S2 R2,C:=C }
theorem IterC.run {E:Env} (hE:E.Ok) (hmix:E.P.follows .mixedOrders=true) {f:FuncId} {fn:Func} {ks:Nat→List Nat} {dm:Nat→Nat × List Bool} {mc:MC} (hf:E.P.funcs[f]? = some fn) (hm:fn.body.bind (toMC E.N ks dm)=some mc) (hN:fn.ntmps=E.N) {caps:List AV} {S:St} {Y:List AV→St→(AV→St→Prop)→Prop} {R:St→Prop}
  (hargs:caps.length+1≤E.N)
  (h:∀ (l:Nat) (C:Cx→Prop),WC (E.iter S l Y C) mc (bodyQ (E.iter S l Y C) fn.results.toList fun e S'=>(∃ x,e=.ret x)∧R S') (argTS 0 (.func (.yield l) [] [] :: caps)) S):IterC E.P f caps S Y R:=by
 intro l C hCle hY c w vs hC hst hl
 have hok:(E.iter S l Y C).Ok:=⟨hE.T,hE.M,hCle,fun l' args S2 K c w vs ⟨e,hy⟩ hc hs hr=>by
  subst e;exact hY args S2 K c w vs hy hc hs hr⟩
 cases hb:fn.body with
 | none=>rw [hb] at hm;cases hm
 | some code =>
  rw [hb] at hm
  refine (AC.of_bodyC (E:=E.iter S l Y C) hok hf hb (toMC_ok _ _ hm) hN rfl rfl (by show caps.length+1≤E.N;exact hargs) (fun E' hE' hP=>draw_ok hE' (hP ▸ hmix)) (h l C) rfl c w vs hC hst hl).mono fun e w' ⟨ae,S',c',h1,h2,h3,h4⟩ => ?_
  obtain ⟨⟨x,rfl⟩,hR⟩:=h2
  cases e with
  | returned y=>exact ⟨y,S',c',rfl,h1,hR,h4⟩
  | panicked ch=>exact h3.elim
  | outgrown=>exact h3.elim
end Go.Av
end
section
namespace Go.Av.Fx
open Go Go.Av Go.Av.Tb Go.Proofs
open Go.Fw (Sq ent Bd Mat)
@[go_sem] theorem iter_T (E:Env) (S:St) (l:Nat) (Y:List AV→St→(AV→St→Prop)→Prop) (C:Cx→Prop):(E.iter S l Y C).T=E.T:=rfl
@[go_sem] theorem iter_P (E:Env) (S:St) (l:Nat) (Y:List AV→St→(AV→St→Prop)→Prop) (C:Cx→Prop):(E.iter S l Y C).P=E.P:=rfl
@[go_sem] theorem round_T (E:Env) (S:St) (l:Nat):(E.inRound l S).T=E.T:=rfl
@[go_sem] theorem round_P (E:Env) (S:St) (l:Nat):(E.inRound l S).P=E.P:=rfl
noncomputable def Es (n:Nat) (S:St):Env:={ E n with base:=S.heap.length,bt:=S.nt }
theorem Es_ok (n:Nat) (S:St):(Es n S).Ok:=⟨(E_ok n).T,(E_ok n).M,(E_ok n).Cle,(E_ok n).Y⟩
@[go_sem] theorem Es_T (n:Nat) (S:St):(Es n S).T=T:=rfl
@[go_sem] theorem Es_P (n:Nat) (S:St):(Es n S).P=Tryz.prog:=rfl
def setA:List Int→AV
 | []=>.nilS
 | s=>.slice (ints s) s.length .exact
def ones (m:Nat):List (List Int):=(List.range m).map fun (i:Nat)=>[(i:Int)]
def twosAt (m i:Nat):List (List Int):=(List.range (m - (i+1))).map fun (j:Nat)=>[(i:Int),((i+1+j:Nat):Int)]
def twos (m:Nat):List (List Int):=(List.range m).flatMap (twosAt m)
def setsL (m:Nat):List (List Int):=[] :: (ones m ++ twos m)
theorem sy_yield {E:Env} {K:AV→St→Prop} {h:Hold K} {l:Nat} {args:List AV} {S:St} {R:AV→St→Prop} (hy:E.Y l args S R) (hk:∀ v S',R v S'→K v S'):sy E K h (some (l,args)) S:=⟨R,hy,hk⟩
def thR (L:List Theft):List AV:=L.flatMap fun t=>[setA t.1,wS t.2]
def thT:List Theft→AV
 | []=>.nilS
 | t :: L=>.slice (thR (t :: L)) (L.length+1) (.tok L.length)
def addT (l:LLine) (L:List Theft) (s:List Int):List Theft:=match explM l s with
 | some W=>L ++ [(s,W)]
 | none=>L
def theftsL (l:LLine):List Theft:=(setsL l.gives.length).foldl (addT l) []
theorem thT_one (L:List Theft):AV.one (thT L)=true:=by cases L <;> rfl
attribute [go_sem] thT_one
@[go_sem] theorem onlyN_normal (K:TS→St→Prop) (ts:TS) (S:St):onlyN K .normal ts S=K ts S:=rfl
@[go_sem] theorem zipTS_1 (p:Nat) (v:AV) (ts:TS):zipTS [p] [v] ts=ts.set p v:=rfl
@[go_sem] theorem ne00:decide ((0:Int)≠0)=false:=rfl
@[go_sem] theorem ne10:decide ((1:Int)≠0)=true:=rfl
@[go_sem] theorem ne20:decide ((2:Int)≠0)=true:=rfl
@[go_sem] theorem ne30:decide ((3:Int)≠0)=true:=rfl
@[go_sem] theorem ne40:decide ((4:Int)≠0)=true:=rfl
@[go_sem] theorem ne50:decide ((5:Int)≠0)=true:=rfl
@[go_sem] theorem ne60:decide ((6:Int)≠0)=true:=rfl
@[go_sem] theorem ne70:decide ((7:Int)≠0)=true:=rfl
@[go_sem] theorem ne80:decide ((8:Int)≠0)=true:=rfl
@[go_sem] theorem ne90:decide ((9:Int)≠0)=true:=rfl
@[go_sem] theorem eq00:decide ((0:Int)=0)=true:=rfl
@[go_sem] theorem eq10:decide ((1:Int)=0)=false:=rfl
@[go_sem] theorem eq20:decide ((2:Int)=0)=false:=rfl
@[go_sem] theorem eq30:decide ((3:Int)=0)=false:=rfl
@[go_sem] theorem eq40:decide ((4:Int)=0)=false:=rfl
@[go_sem] theorem eq50:decide ((5:Int)=0)=false:=rfl
@[go_sem] theorem eq60:decide ((6:Int)=0)=false:=rfl
@[go_sem] theorem eq70:decide ((7:Int)=0)=false:=rfl
@[go_sem] theorem eq80:decide ((8:Int)=0)=false:=rfl
@[go_sem] theorem eq90:decide ((9:Int)=0)=false:=rfl
def possB (l:LLine):Bool:=decide ((theftsL l).length > 0)
abbrev zeroLn:AV:=.agg [.nilS,.int .i64 0,.int .i64 0,.int .i64 0,.nilS,.nilS]
def askE (l:LLine) (fine:Bool):Int:=if isLineB l=true then (if fine=true then (if possB l=true then 0 else 7) else 2) else 2
def askedA (l:LLine) (fine:Bool):AV:=if isLineB l=true then (if fine=true then (if possB l=true then .tuple [.agg (lnC l (theftsL l)),.int .i64 0] else .tuple [zeroLn,.int .i64 7]) else .tuple [zeroLn,.int .i64 2]) else .tuple [zeroLn,.int .i64 2]
theorem askedA_bnd (l:LLine) (fine:Bool):(askedA l fine).bnd 0 0=true:=by
 unfold askedA;repeat' split
 all_goals simp [AV.bnd,bndL]
def gro (l:List AV):AV:=match l with
 | []=>.nilS
 | a :: l=>.slice (a :: l) (l.length+1) (.tok l.length)
theorem gro_app (T:Tab) (t e:TypeId) (ei:TI) (h1:descOf T t=some (.slice e)) (h2:T e=some ei) (h3:ei.size=1) (h4:ei.bytes≤100) (l:List AV) (x:AV) (tx:Tail) (hx:AV.one x=true) (hn:appendA T ⟨[],0,[]⟩ t .nilS (.slice [x] 1 tx)=some (.tok none fun j=>.slice [x] 1 (.tok j)))
  (hl:l.length≤100000) {K:AV→St→Prop} {hK:Hold K} {h:List (Option Blk)} (hnil:∀ S:St,appendA T S t .nilS (.slice [x] 1 tx)=some (.tok none fun j=>.slice [x] 1 (.tok j))) (next:K (gro (l ++ [x])) ⟨h,l.length+1,toksN (l.length+1)⟩):sr K hK (appendA T ⟨h,l.length,toksN l.length⟩ t (gro l) (.slice [x] 1 tx)) ⟨h,l.length,toksN l.length⟩:=by
 cases l with
 | nil =>
  show sr K hK (appendA T ⟨h,0,[]⟩ t .nilS (.slice [x] 1 tx)) _
  rw [hnil,sr_tok];exact next
 | cons a l =>
  show sr K hK (appendA T ⟨h,(a :: l).length,toksN (a :: l).length⟩ t (.slice (a :: l) (l.length+1) (.tok l.length)) _) _
  simp only [zW] at hl
  have hh:heldA ⟨h,(a :: l).length,toksN (a :: l).length⟩ ei.size (.slice [x] 1 tx)=some ([x],1):=by rw [h3];rfl
  rw [zCs (e:=e) (ei:=ei) (lx:=[x]) (nx:=1) h1 h2 (by rw [h3];decide) hh (by decide) (by simp only [zL,zO,hx,Bool.and_true]) (by
   have:(l.length+1+1) * ei.bytes≤(l.length+1+1) * 100:=Nat.mul_le_mul_left _ h4
   omega) (by omega) (by rw [h3];simp)]
  rw [zBu]
  refine ⟨zP, ?_⟩
  have:killTok (toksN (l.length+1)) (some l.length)=[]:=by simp [killTok,toksN]
  show K (.slice (a :: l ++ [x]) (l.length+1+1) (.tok (l.length+1))) ⟨h,l.length+1+1,(l.length+1) :: killTok (toksN (l.length+1)) (some l.length)⟩
  rw [this]
  have e:gro (a :: l ++ [x])=.slice (a :: l ++ [x]) (l.length+1+1) (.tok (l.length+1)):=by simp [gro]
  rw [← e];exact next
theorem sr_gro22 (l:List AV) (n:Int) (tx:Tail) {q:Nat} (hq:l.length=q) (hl:q≤100000) {K:AV→St→Prop} {hK:Hold K} {h:List (Option Blk)} (next:K (gro (l ++ [.int .i64 n])) ⟨h,q+1,toksN (q+1)⟩):sr K hK (appendA T ⟨h,q,toksN q⟩ 32 (gro l) (.slice [.int .i64 n] 1 tx)) ⟨h,q,toksN q⟩:=by
 subst hq;exact gro_app T 32 3 ti3 rfl rfl rfl (by decide) l _ tx rfl rfl hl (fun S=>rfl) next
@[go_sem] theorem y_guard_c {E:Env} {K:TS→St→Prop} {n:Nat} {rest:List MO} {b:St} {ts:TS} {S:St} (t:Nat) (g:Bool) (d:Option Nat) (o:Op) (f:Bool) (hs:List Bool) :
  preM E K (n+1) (⟨some (t,g),d,o⟩ :: rest) (f :: hs) b ts S=sg (preM E K (n+1) (⟨none,d,o⟩ :: rest) (f :: hs) b ts S) (preM E K n rest hs b (setT ts d .undef) S) ⟨⟩ ⟨⟩ g (ts.get t):=by
 simp only [preM,guardM,sg]
 cases ts.get t with
 | none=>rfl
 | some v=>cases v with
  | bool x=>cases x <;> cases g <;> rfl
  | _=>rfl

theorem wc_forGP {E:Env} {c:MC} {Q:AQ} {ts:TS} {S:St} (N:Nat) (P:Nat→Prop) (f:Nat→TS) (g:Nat→St) (hP:P 0) (h0:f 0=ts) (h1:g 0=S) (hb:∀ k,k≤N→Neat E.base E.bt (f k) (g k))
  (h:∀ k,k≤N→P k → ∀ I:TS→St→Prop,(k<N→P (k+1) → ∀ extra,I (f (k+1)) ⟨(g (k+1)).heap ++ extra,(g (k+1)).nt,(g (k+1)).toks⟩)→WC E c (thenQ I Q) (f k) (g k)):WC E (.loop c) Q ts S:=by
 refine zAu (fun n ts' S' => ∃ k,k≤N∧P k∧n=N - k∧ts'=f k∧S'=g k) N ⟨0,qG _,hP,rfl,h0.symm,h1.symm⟩ ?_
 rintro n ts' S' ⟨k,hk,hp,rfl,rfl,rfl⟩
 refine h k hk hp _ fun hlt hp' extra=>⟨N - (k+1),by omega,.inr ⟨f (k+1),g (k+1),(hb _ hlt).base,(hb _ hlt).bt, ?_, ?_,k+1,hlt,hp',rfl,rfl,rfl⟩⟩
 ·refine ⟨by simp,fun i B hB=>⟨?_,(hb _ hlt).heap i B hB⟩,zM _,fun t ht=>⟨ht,(hb _ hlt).toks t ht⟩⟩
  have hi:i<(g (k+1)).heap.length:=by
   rcases zU i (g (k+1)).heap.length with h' | h'
   ·exact h'
   ·rw [zN h'] at hB;cases hB
  show ((g (k+1)).heap ++ extra)[i]? = _
  rw [qJ hi];exact hB
 ·intro d v hv
  exact ⟨v,hv,Sub.refl v,bndTS_get (hb _ hlt).ts hv⟩
@[go_sem] theorem eq22_nn:binA T .eql 32 .nilS .nilS=some (.bool true):=rfl
theorem eq22_sn {l:List AV} {n:Nat} {t:Tail} (h:0<n):binA T .eql 32 (.slice l n t) .nilS=some (.bool false):=by
 have:binA T .eql 32 (.slice l n t) .nilS=(if 0<n then some false else none).map .bool:=rfl
 rw [this,if_pos h];rfl
theorem ints_all (l:List Int):(ints l).all AV.one=true:=by simp [ints,yG];intro x hx;rfl
theorem clone_nil:PC Tryz.prog 120 [.nilS] (.pure .nilS):=by
 refine PC.of_empty (AC.run (E_ok _) mix Tryz.func120 m120 rfl rfl rfl (zE rfl) ?_) (by simp [bndL,AV.bnd]) rfl
 simp only [go_sem,Tryz.f120,zB,zD,zC,reduceIte,reduceCtorEq,zA]
theorem clone_pc (l:List Int) (hl:l.length≤100000) (hne:0<l.length):PC Tryz.prog 120 [sl l] (.tok none fun j=>.slice (ints l) l.length (.tok j)):=by
 refine PC.of_tok (AC.run (E_ok _) mix Tryz.func120 m120 rfl rfl rfl (zE rfl) ?_) (by simp [bndL,AV.bnd]) (by simp)
 have e:=eq22_sn (l:=ints l) (t:=.unk) hne
 simp only [go_sem,e,zAa,zB,zD,zC,reduceIte,reduceCtorEq,zA]
 rw [zCs (e:=3) (ei:=ti3) (lx:=ints l) (nx:=l.length) rfl rfl (by decide) (by simp [heldA,ti3]) (by omega) (ints_all l) (by simp [ti3];omega) (by omega) (by simp [ti3])]
 simp only [go_sem,yB,Nat.zero_add,Tryz.f120,zB,zD,zC,reduceIte,reduceCtorEq,zA]
 exact ⟨0,rfl,zP⟩
@[go_sem] theorem arg7 (a b c d e f g:AV):argTS 0 [a,b,c,d,e,f,g]=[(0,a),(1,b),(2,c),(3,d),(4,e),(5,f),(6,g)]:=rfl
inductive IsL:AV→List Int→Prop where
 | nil:IsL .nilS []
 | row (l:List Int) (t:Tail) (h:0<l.length):IsL (.slice (ints l) l.length t) l
theorem IsL.sub {v:AV} {l:List Int} (h:IsL v l):Sub v (sl l):=by
 cases h with
 | nil=>exact Sub.nil
 | row l t h=>exact Sub.unk _ _ _
theorem IsL.one {v:AV} {l:List Int} (h:IsL v l):AV.one v=true:=by cases h <;> rfl
theorem IsL.frz {v:AV} {l:List Int} (h:IsL v l) (hp:List (Option Blk)):Frz hp v (sl l):=by
 cases h with
 | nil=>exact .nil
 | row l t h=>exact .unk _ _ _
theorem zDf (H:List (Option Blk)) (l:List (Option Blk)) (i:Nat) (B:Blk):setH (H ++ l) (H.length+i) B=H ++ setH l i B:=by
 induction H with
 | nil=>simp
 | cons x H ih =>
  rw [qX,show (x :: H).length+i=(H.length+i)+1 by simp;omega]
  show x :: setH (H ++ l) (H.length+i) B=_
  rw [ih];rfl
theorem zAd (S:St) (i:Nat) (B:Blk):S.put i B=⟨setH S.heap i B,S.nt,S.toks⟩:=by cases S;exact put_mk _ _ _ _ _
theorem Frz.two {h:List (Option Blk)} {a b a' b':AV} (h1:Frz h a a') (h2:Frz h b b'):Frz h (.tuple [a,b]) (.tuple [a',b']):=
 .tuple _ _ rfl fun j x y hx hy=>by
  match j,hx,hy with
  | 0,hx,hy=>simp only [List.getElem?_cons_zero,yT] at hx hy;subst hx;subst hy;exact h1
  | 1,hx,hy=>simp only [List.getElem?_cons_succ,List.getElem?_cons_zero,yT] at hx hy;subst hx;subst hy;exact h2
  | j+2,hx,hy=>simp at hx

def metA (ks:List Int):List (AV × AV):=ks.map fun k=>(.int .i64 k,.bool true)
def addK (ks:List Int) (n:Int):List Int:=if ks.contains n=true then ks else ks ++ [n]
theorem zEn (n:Int):∀ (ks:List Int) (i:Nat),(ks.contains n=false→findA (.int .i64) (.int .i64 n) (metA ks) i=some none)∧(ks.contains n=true → ∃ j,findA (.int .i64) (.int .i64 n) (metA ks) i=some (some (i+j,.bool true))∧ks[j]? = some n)
 | [],i=>⟨fun _=>rfl,fun h=>by simp at h⟩
 | k :: ks,i=>by
  have ih:=zEn n ks (i+1)
  by_cases e:n=k
  ·subst e
   refine ⟨fun h=>by simp at h,fun _=>⟨0, ?_,rfl⟩⟩
   simp [metA,findA,eqKey]
  ·have e1:findA (.int .i64) (.int .i64 n) (metA (k :: ks)) i=findA (.int .i64) (.int .i64 n) (metA ks) (i+1):=by
    have hb:(n == k)=false:=by simp [e]
    simp only [metA,List.map_cons,findA,eqKey,if_true,hb]
   have e2:(k :: ks).contains n=ks.contains n:=by
    rw [List.contains_cons];simp [e]
   rw [e1,e2]
   refine ⟨ih.1,fun h => ?_⟩
   obtain ⟨j,h1,h2⟩:=ih.2 h
   exact ⟨j+1,by rw [h1,show i+1+j=i+(j+1) by omega],by simpa using h2⟩
theorem mapUpd {S:St} {i:Nat} {ks:List Int} (h:S.heap[i]? = some (some (.map (metA ks)))) (n:Int):zAz T S 181 (.map i) (.int .i64 n) (.bool true)=some (.write i (.map (metA (addK ks n))) .undef):=by
 have d1:descOf T 181=some (.map 3 4):=rfl
 have d2:descOf T 3=some (.int .i64):=rfl
 simp only [zAz,d1,d2,h,isKey,if_true]
 unfold addK
 cases hc:ks.contains n
 ·rw [((zEn n ks 0).1 hc)]
  simp [metA]
 ·obtain ⟨j,h1,h2⟩:=(zEn n ks 0).2 hc
  rw [h1]
  simp only [Nat.zero_add]
  have:(metA ks).set j (.int .i64 n,.bool true)=metA ks:=by
   refine List.ext_getElem? fun q => ?_
   rw [yC]
   by_cases e:j=q
   ·subst e
    have hj:j<ks.length:=by
     rcases zU j ks.length with h' | h'
     ·exact h'
     ·rw [zN h'] at h2;cases h2
    simp [metA,hj]
    have:=zF hj
    rw [h2] at this
    simpa using this
   ·rw [if_neg e]
  rw [this];rfl
def susStep (n p:Nat) (lo hi:Int) (acc:Bool × List Int) (t:Theft):Bool × List Int:=
 if (spanM t.2 n p).low > hi then acc else if (spanM t.2 n p).high<lo then acc else (true,t.1.foldl addK acc.2)
def susLo (read off:Int):Int:=if read - off > 0 then read - off else 0
def susHi (read off:Int):Int:=if read+off<400 then read+off else 400
def susL (l:LLine) (L:List Theft) (p:Nat) (read off:Int):Int:=
 if (L.foldl (susStep (l.gives.length+1) p (susLo read off) (susHi read off)) (false,[])).1=true then (L.foldl (susStep (l.gives.length+1) p (susLo read off) (susHi read off)) (false,[])).2.length else -1
structure Ch where
 point:Int
 left:Int
 deriving DecidableEq
abbrev chC (c:Ch):List AV:=[.int .i64 c.point,.int .i64 c.left]
attribute [go_sem] chC
def better (o x:Ch):Ch:=if x.left<o.left then x else o
def bestL (L:List Ch):Ch:=L.foldl better (L.headD ⟨0,0⟩)
def worstStep (l:LLine) (L:List Theft) (p:Nat) (off:Int) (c:Int) (read:Nat):Int:=if susL l L p read off > c then susL l L p read off else c
def worstL (l:LLine) (L:List Theft) (p:Nat) (off:Int):Int:=(List.range 401).foldl (worstStep l L p off) 0
def choices (l:LLine) (L:List Theft) (off:Int) (m:Nat):List Ch:=(List.range m).map fun (p:Nat)=>⟨p,worstL l L p off⟩
def nextL (l:LLine) (off:Int):Ch:=bestL (choices l (theftsL l) off (l.gives.length+1))
def nextA (l:LLine) (off:Int):AV:=if askE l (inB off 0 20)=0 then .tuple [.int .i64 (nextL l off).point,.int .i64 (nextL l off).left,.int .i64 0] else .tuple [.int .i64 0,.int .i64 0,.int .i64 (askE l (inB off 0 20))]
end Go.Av.Fx
end
section
namespace Go.Av
open Go
def modeOf (c:Cx):Option AV→FrameMode→Prop
 | none,u=>u=.returning
 | some v,u => ∃ x,u=.panicking [{ v:=x,recovered:=false }]∧VRel c v x
def DC (P:Program) (g:FuncId) (caps:List AV) (pan:Option AV) (S:St) (R:St→Prop):Prop:=
 ∀ c w vs u,StRel c S w→LRel c caps vs→modeOf c pan u→CallsDIn Fence.wide 0 P g vs.toArray u w fun e u' w'=>(∃ y,e=.returned y)∧settle u'=.returning ∧ ∃ S' c',c.le c'∧R S'∧StRel c' S' w'
theorem DC.run {E:Env} (hE:E.Ok) (hmix:E.P.follows .mixedOrders=true) {g:FuncId} {fn:Func} {id:Nat} {o:Oper} {d:Nat} {code:Code} {ks:Nat→List Nat} {dm:Nat→Nat × List Bool} {mc:MC}
  (hf:E.P.funcs[g]? = some fn) (hb:fn.body=some (.seq (.region id #[o] false) code)) (ho:o.op=.call { callee:=.builtin .recover,args:=#[],argTypes:=#[] }) (hg:o.guard=none) (hd:o.dst=some d)
  (hm:toMC E.N ks dm code=some mc) (hN:fn.ntmps=E.N) (hres:fn.results=#[]) {caps:List AV} {pan:Option AV} {S:St} {R:St→Prop} (hargs:caps.length≤E.N) (hdN:d<E.N) (hbase:E.base=S.heap.length) (hbt:E.bt=S.nt)
  (hR:E.R=none) (hC:∀ c,E.C c) (hK:E.K=false)
  (h:WC E mc (fun e _ S'=>match e with | .normal=>R S' | .ret=>R S' | _=>False) ((argTS 0 caps).set d (pan.getD .nilIface)) S):DC E.P g caps pan S R:=by
 intro c w vs u hst hl hu
 have hlen:vs.length=caps.length:=hl.1.symm
 refine callsDIn_of_wpSIn hf hb trivial fun c₀ cs hc₀ => ?_
 refine wpSIn_seq (wpSIn_region ?_)
 have hexec:(execOp ({ tmps:=vs.toArray ++ Array.replicate (fn.ntmps - vs.toArray.size) Go.undef,defers:=[] }:Act).eval o).run E.P w=.ok .recover w:=by
  simp only [execOp,ho]
  simp [resolve,invoke,builtin,go_sem]
 have hrest:∀ (x:Value) (cs':List Frame) (u':FrameMode),cs'={ c₀ with mode:=u' } :: cs→settle u'=.returning→VRel c (pan.getD .nilIface) x →
   code.wpSIn Fence.wide 0 E.P (bodyPostS E.P fn c₀ cs fun e u' w'=>(∃ y,e=.returned y)∧settle u'=.returning ∧ ∃ S' c',c.le c'∧R S'∧StRel c' S' w')
    (({ tmps:=vs.toArray ++ Array.replicate (fn.ntmps - vs.toArray.size) Go.undef,defers:=[] }:Act).put o.dst x) cs' w:=by
  intro x cs' u' hcs hset hx
  have sim0:Sim E c c [] (argTS 0 caps) S { tmps:=vs.toArray ++ Array.replicate (fn.ntmps - vs.toArray.size) Go.undef,defers:=[] } w:=by
   refine ⟨(Cx.le.refl c).S,hC c,⟨fun i n e=>by rw [hbase];exact (hst.dom i n e).1,fun k x e=>by rw [hbt];exact (hst.tdom k x e).1⟩,hst,fun d v e => ?_,Marks.nil _ _ _ _, ?_⟩
   ·obtain ⟨_,h2⟩:=zEk _ _ _ _ e
    rw [Nat.sub_zero] at h2
    obtain ⟨u,hu,hr⟩:=hl.get h2
    have hd:d<vs.length:=by
     rcases zU d vs.length with h' | h'
     ·exact h'
     ·rw [zN h'] at hu;cases hu
    rw [zZ,yR (by simpa using hd)]
    simp only [List.getElem?_toArray,hu,qD]
    exact hr
   ·simp;omega
  have sim1:=sim0.put (Cx.le.refl c) hst (dst:=o.dst) hx (by rw [hd];simpa [dstOk] using hdN)
  rw [hd] at sim1
  have hw:=WC_ok (fun E' hE' hP=>draw_ok hE' (hP ▸ hmix)) (toMC_ok _ _ hm) E hE rfl rfl c [] _ _ S c _ w h sim1
  rw [Env.F_wide hR] at hw
  refine wpSIn_of_wpIn rfl ?_
  rw [hd]
  refine wpIn_mono hw fun e a' w' hq => ?_
  obtain ⟨ae,ts',S',c',h1,h2,h3⟩:=hq
  obtain ⟨ms,m1,m2,m3,m4⟩:=h3.ds
  rw [hK] at m4
  rw [m4 rfl] at m1
  have hdef:a'.defers=[]:=by simpa using m1
  have hst':StRel (c'.withXO c.XO) S' w':=by
   refine h3.st.withXO _ (fun b ob e=>h3.st.XO b ob (h3.le.XO b ob e)) fun i n B _ _ _ e3 => ?_
   cases hx:c.XO n with
   | none=>rfl
   | some ob=>rw [h3.le.XO n ob hx] at e3;cases e3
  have hr0:(results fn a'.tmps).run E.P w'=.ok (.tuple #[]) w':=by
   simp [results,hres]
  have done:R S'→a'.defers=[] ∧ ∃ u'',cs'={ c₀ with mode:=u'' } :: cs ∧ ∃ v,(results fn a'.tmps).run E.P w'=.ok v w'∧((∃ y,Ending.returned v=.returned y)∧settle u''=.returning ∧ ∃ S' c',c.le c'∧R S'∧StRel c' S' w'):=
   fun hRS=>⟨hdef,u',hcs,.tuple #[],hr0,⟨_,rfl⟩,hset,S',_,h3.le.back,hRS,hst'⟩
  cases ae with
  | normal =>
   cases e <;> first | exact h1.elim | skip
   exact done h2
  | ret =>
   cases e <;> first | exact h1.elim | skip
   exact done h2
  | exit i=>exact h2.elim
  | panic v=>exact h2.elim
 show wpOpsSIn Fence.wide 0 E.P #[o] _ [0] _ _ _
 simp only [wpOpsSIn,List.getElem?_toArray]
 refine ⟨fun _ _=>trivial, ?_⟩
 have hwanted:Region.wanted o (yielded #[o] (vs.toArray ++ Array.replicate (fn.ntmps - vs.toArray.size) Go.undef))=true:=by
  unfold Region.wanted;rw [hg]
 rw [if_pos hwanted,hexec]
 simp only
 cases pan with
 | none =>
  have hu:u=.returning:=hu
  have:recoverD (c₀ :: cs)=none:=by
   simp only [recoverD,hc₀,hu]
  rw [this]
  exact hrest .nilIface _ .returning (by rw [← hu,← hc₀]) rfl .nilIface
 | some v =>
  obtain ⟨x,hu,hx⟩:=hu
  have:recoverD (c₀ :: cs)=some (x,{ c₀ with mode:=.panicking [{ v:=x,recovered:=true }] } :: cs):=by
   simp only [recoverD,hc₀,hu]
  rw [this]
  exact hrest x _ (.panicking [{ v:=x,recovered:=true }]) rfl rfl hx
def Env.from (E:Env) (S:St):Env:={ E with base:=S.heap.length,bt:=S.nt }
theorem Env.Ok.from {E:Env} (h:E.Ok) (S:St):(E.from S).Ok:=⟨h.T,h.M,h.Cle,h.Y⟩
def endQ (E:Env) (rs:List ResultVar) (g:FuncId) (caps:List AV) (R:AEnd→St→Prop):AQ
 | .normal,ts,S'=>DC E.P g caps none S' fun S2 => ∃ vs,resA E.T S2 ts rs=some vs∧R (.ret (tupA vs)) S2
 | .ret,ts,S'=>DC E.P g caps none S' fun S2 => ∃ vs,resA E.T S2 ts rs=some vs∧R (.ret (tupA vs)) S2
 | .panic v,ts,S'=>DC E.P g caps (some v) S' fun S2 => ∃ vs,resA E.T S2 ts rs=some vs∧R (.ret (tupA vs)) S2
 | .exit _,_,_=>False
theorem AC.deferring {E:Env} (hE:E.Ok) (hmix:E.P.follows .mixedOrders=true) {f:FuncId} {fn:Func} {a x:Code} {id:Nat} {o1 o2:Oper} {t:Nat} {tys:Array TypeId} {ks:Nat→List Nat} {dm:Nat→Nat × List Bool} {ma mx:MC}
  (hf:E.P.funcs[f]? = some fn) (hb:fn.body=some (.seq a (.seq (.region id #[o1,o2] false) x))) (ho2:o2.op=.defer { callee:=.value (.tmp t),args:=#[],argTypes:=tys }) (hg1:o1.guard=none) (hg2:o2.guard=none) (hd1:o1.dst=some t) (hd2:o2.dst=none)
  (hma:toMC E.N ks dm a=some ma) (hmx:toMC E.N ks dm x=some mx) (hN:fn.ntmps=E.N) (ht:t<E.N) {args:List AV} {S:St} {R:AEnd→St→Prop} (hbase:E.base=S.heap.length) (hbt:E.bt=S.nt) (hargs:args.length≤E.N)
  (hR:E.R=none) (hC:∀ c,E.C c) (hK:E.K=false)
  (h:WC E ma (onlyN fun ts1 S1 => ∃ g caps,astepO E.T S1 ts1 o1.op=some (.pure (.func (.func g) [] caps))∧Callable E.P g∧WC (E.from S1) mx (endQ E fn.results.toList g caps R) (ts1.set t (.func (.func g) [] caps)) S1) (argTS 0 args) S):AC E.P f args S R:=by
 intro c w vs hs hl
 have hlen:vs.length=args.length:=hl.1.symm
 refine (callsIn_wide (n:=0)).1 (callsIn_of_wp_marks hf hb trivial ?_)
 have hsim:Sim E c c [] (argTS 0 args) S { tmps:=vs.toArray ++ Array.replicate (fn.ntmps - vs.toArray.size) Go.undef,defers:=[] } w:=by
  refine ⟨(Cx.le.refl c).S,hC c,⟨fun i n e=>by rw [hbase];exact (hs.dom i n e).1,fun k x e=>by rw [hbt];exact (hs.tdom k x e).1⟩,hs,fun d v e => ?_,Marks.nil _ _ _ _, ?_⟩
  ·obtain ⟨_,h2⟩:=zEk _ _ _ _ e
   rw [Nat.sub_zero] at h2
   obtain ⟨u,hu,hr⟩:=hl.get h2
   have hd:d<vs.length:=by
    rcases zU d vs.length with h' | h'
    ·exact h'
    ·rw [zN h'] at hu;cases hu
   rw [zZ,yR (by simpa using hd)]
   simp only [List.getElem?_toArray,hu,qD]
   exact hr
  ·simp;omega
 have nodef:∀ {c c':Cx} {ds l:List Deferred},Marks E.K c c' ds l→l=ds:=fun ⟨ms,m1,_,_,m4⟩=>by rw [m4 hK] at m1;simpa using m1
 have draws:∀ (E':Env),E'.Ok→E'.P=E.P→_:=fun E' hE' hP=>draw_ok hE' (hP ▸ hmix)
 refine wpIn_seq ?_
 have hw:=WC_ok draws (toMC_ok _ _ hma) E hE rfl rfl c [] _ _ S c _ w h hsim
 rw [Env.F_wide hR] at hw
 refine wpIn_mono hw fun e a1 w1 hq => ?_
 obtain ⟨ae,ts1,S1,c1,h1,h2,h3⟩:=hq
 cases ae with
 | exit i=>exact h2.elim
 | ret=>exact h2.elim
 | panic v=>exact h2.elim
 | normal =>
 cases e <;> first | exact h1.elim | skip
 obtain ⟨g,caps,hst,hcall,hx⟩:=h2
 show (Code.seq (.region id #[o1,o2] false) x).wpIn Fence.wide 0 E.P _ a1 w1
 refine wpIn_seq (wpIn_region ?_)
 have hd0:=nodef h3.ds
 show wpOpsIn Fence.wide 0 E.P #[o1,o2] _ [0,1] a1 w1
 have g1:(#[o1,o2]:Array Oper)[0]? = some o1:=rfl
 have g2:(#[o1,o2]:Array Oper)[1]? = some o2:=rfl
 have want1:∀ y,Region.wanted o1 y=true:=fun y=>by unfold Region.wanted;rw [hg1]
 have want2:∀ y,Region.wanted o2 y=true:=fun y=>by unfold Region.wanted;rw [hg2]
 simp only [wpOpsIn,g1,g2,want1,want2,if_true]
 obtain ⟨v1,w2,hy,hp⟩:=astep_ok (P:=E.P) hE.T h3.st h3.ts (o:=o1) hst trivial
 obtain ⟨c2,k1,k2,k3⟩:=Post.app h3.st hp
 have sim2:=h3.put k1 k2 (dst:=o1.dst) (v:=.func (.func g) [] caps) k3 (by rw [hd1];simpa [dstOk] using ht)
 rw [hd1] at sim2
 have nd1:∀ c,o1.op ≠ .defer c:=fun cl hcl=>by rw [hcl] at hst;simp [astepO] at hst
 have hrest:o2.wpIn Fence.wide 0 E.P (a1.put (some t) v1) w2 (fun a3 w3=>Exit.then (x.wpIn Fence.wide 0 E.P (bodyPostM Fence.wide 0 E.P fn fun e w' => ∃ ae S' c',c.le c'∧R ae S'∧EndRel c' ae e∧StRel c' S' w')) (bodyPostM Fence.wide 0 E.P fn fun e w' => ∃ ae S' c',c.le c'∧R ae S'∧EndRel c' ae e∧StRel c' S' w') .normal a3 w3)
   (Exit.then (x.wpIn Fence.wide 0 E.P (bodyPostM Fence.wide 0 E.P fn fun e w' => ∃ ae S' c',c.le c'∧R ae S'∧EndRel c' ae e∧StRel c' S' w')) (bodyPostM Fence.wide 0 E.P fn fun e w' => ∃ ae S' c',c.le c'∧R ae S'∧EndRel c' ae e∧StRel c' S' w')):=by
  have hv:(a1.put (some t) v1).eval (.tmp t)=v1:=by
   have hlt:t<a1.tmps.size:=by rw [h3.size];exact ht
   simp [Act.eval,Act.put,zZ,hlt]
  cases k3 with
  | func _ _ _ f2 c2v hl1 hl2 hff hcc =>
  have hf2:f2=#[]:=by apply Array.ext';simpa using hl1.symm
  subst hf2
  refine ⟨fun _ _=>trivial, ?_⟩
  have hex:(o2.semAt Fence.wide.round (a1.put (some t) (.func (.func g) #[] c2v)).eval).run E.P w2=.ok (.defer { target:=.fn (.func g) c2v,args:=#[] }) w2:=by
   show (execOp _ o2).run E.P w2=_
   simp only [execOp,ho2,resolve,hv,Deferred.ofValue,yV,yW,yU]
   simp
  rw [hex,Oper.uponIn_defer,hd2]
  show x.wpIn Fence.wide 0 E.P _ _ w2
  have sim3:Sim (E.from S1) c2 c2 [{ target:=.fn (.func g) c2v,args:=#[] }] (ts1.set t (.func (.func g) [] caps)) S1 (({ a1.put (some t) (.func (.func g) #[] c2v) with defers:={ target:=.fn (.func g) c2v,args:=#[] } :: (a1.put (some t) (.func (.func g) #[] c2v)).defers }:Act).put none Go.undef) w2:=by
   refine ⟨(Cx.le.refl c2).S,hC _,⟨fun i n e=>(sim2.st.dom i n e).1,fun k x e=>(sim2.st.tdom k x e).1⟩,sim2.st,sim2.ts, ?_,sim2.size⟩
   have:(a1.put (some t) (.func (.func g) #[] c2v)).defers=[]:=hd0
   show Marks _ _ _ _ (_ :: (a1.put (some t) (.func (.func g) #[] c2v)).defers)
   rw [this]
   exact Marks.nil _ _ _ _
  have hwx:=WC_ok draws (toMC_ok _ _ hmx) (E.from S1) (hE.from S1) rfl rfl c2 _ _ _ S1 c2 _ w2 hx sim3
  rw [Env.F_wide (show (E.from S1).R=none from hR)] at hwx
  refine wpIn_mono hwx fun e a4 w4 hq4 => ?_
  obtain ⟨ae,ts4,S4,c4,q1,q2,q3⟩:=hq4
  have hdefs:=nodef q3.ds
  have hle4:c.leS c4:=sim2.le.trans q3.le
  have hback:c.le (c4.withXO c.XO):=hle4.back
  have hst4:StRel (c4.withXO c.XO) S4 w4:=by
   refine q3.st.withXO _ (fun b ob e=>q3.st.XO b ob (hle4.XO b ob e)) fun i n B _ _ _ e3 => ?_
   cases hx:c.XO n with
   | none=>rfl
   | some ob=>rw [hle4.XO n ob hx] at e3;cases e3
  have htf:=q3.ts
  have hcap:LRel (c4.withXO c.XO) caps c2v.toList:=
   ⟨by simpa using hl2,fun j x v h1 h2=>((hcc j x v h1 (by simpa using h2)).mono3 (c':=c4) ⟨q3.le.K,q3.le.μ,q3.le.τ⟩).withXO c.XO⟩
  have fin:∀ (pan:Option AV) (u:FrameMode),u ≠ .run→modeOf (c4.withXO c.XO) pan u→DC E.P g caps pan S4 (fun S2 => ∃ vs,resA E.T S2 ts4 fn.results.toList=some vs∧R (.ret (tupA vs)) S2) →
    LeavesInM Fence.wide 0 E.P fn a4.tmps (fun e w' => ∃ ae S' c',c.le c'∧R ae S'∧EndRel c' ae e∧StRel c' S' w') a4.defers u w4:=by
   intro pan u hu hm hdc
   rw [hdefs]
   refine ⟨hu,.inr ⟨fun hh=>by simp [Fence.wide] at hh,.func g,c2v,g,c2v,rfl, ?_,fun _ _=>trivial, ?_⟩⟩
   ·simp only [invoke]
    rw [show (#[] ++ c2v:Array Value)=c2v by simp]
    exact zCi hcall _ _
   ·have:=hdc (c4.withXO c.XO) w4 c2v.toList u hst4 hcap hm
    rw [show c2v.toList.toArray=c2v by simp] at this
    refine this.mono fun e u' w5 ⟨⟨y,hy⟩,hset,S5,c5,r1,⟨vs5,r2,r3⟩,r4⟩ => ?_
    subst hy
    show LeavesInM _ _ _ _ _ _ [] (settle u') w5
    rw [hset]
    obtain ⟨z,z1,z2⟩:=results_ok (P:=E.P) hE.T r4 (fun d u hu=>((htf d u hu).withXO c.XO).mono r1) fn r2
    exact ⟨z,z1,.ret (tupA vs5),S5,c5,hback.trans r1,r3,z2,r4⟩
  cases ae with
  | exit i=>exact q2.elim
  | normal =>
   cases e <;> first | exact q1.elim | skip
   exact fin none .returning (by simp) rfl q2
  | ret =>
   cases e <;> first | exact q1.elim | skip
   exact fin none .returning (by simp) rfl q2
  | panic v =>
   cases e <;> first | exact q1.elim | skip
   obtain ⟨y,hy1,hy2⟩:=q1
   subst hy1
   exact fin (some v) (.panicking [{ v:=y,recovered:=false }]) (by simp) ⟨y,rfl,hy2.withXO _⟩ q2
 unfold Oper.wpIn
 refine ⟨fun _ _=>trivial, ?_⟩
 rw [Oper.semAt_eq _ _ _ nd1]
 rcases hy with hy | ⟨hy,rfl⟩
 ·rw [hy,Oper.uponIn_value,hd1];exact hrest
 ·rw [hy,Oper.uponIn_skip,hd1];exact hrest
end Go.Av
end
section
namespace Go.Av.Fx
open Go Go.Av Go.Av.Tb Go.Proofs
open Go.Fw (Sq ent Bd Mat)
theorem AC.of_iso {P:Program} {f:FuncId} {args:List AV} {Q Qp:AV→Prop} (h:AC P f args St.empty fun e _=>(∃ v,e=.ret v∧Q v)∨(∃ v,e=.panic v∧Qp v)) (ha:bndL 0 0 args=true) (hQ:∀ v,Q v→v.bnd 0 0=true) (hQp:∀ v,Qp v→v.bnd 0 0=true) (S:St) :
  AC P f args S fun e S'=>((∃ v,e=.ret v∧Q v)∨(∃ v,e=.panic v∧Qp v))∧S'=S:=by
 intro c w vs hs hl
 obtain ⟨cE,hE,eK,eμ,eτ,esz,eX,eXO,eB,eT,eF⟩:=hide hs
 refine (h cE w vs hE (hl.free ha fun b o u e=>by rw [eK];exact e)).mono fun e w' ⟨ae,S',c',h1,h2,h3,h4⟩ => ?_
 obtain ⟨g1,g2⟩:=unhide hs h1 h4 eK esz eX eXO eB eT hE eF.1 eF.2.1 eF.2.2
 rcases h2 with ⟨v,rfl,hv⟩ | ⟨v,rfl,hv⟩
 ·cases e with
  | returned x=>exact ⟨.ret v,S,back c c',g1,⟨.inl ⟨v,rfl,hv⟩,rfl⟩,VRel.free h3 (hQ v hv) (fun _ _ _ e=>e),g2⟩
  | panicked ch=>exact h3.elim
  | outgrown=>exact h3.elim
 ·cases e with
  | returned x=>exact h3.elim
  | panicked ch =>
   obtain ⟨x,hx,hxv⟩:=h3
   exact ⟨.panic v,S,back c c',g1,⟨.inr ⟨v,rfl,hv⟩,rfl⟩,⟨x,hx,VRel.free hxv (hQp v hv) (fun _ _ _ e=>e)⟩,g2⟩
  | outgrown=>exact h3.elim
structure Truth where
 inflow:Int
 losses:List Int
abbrev trC (t:Truth):List AV:=[.int .i64 t.inflow,sl t.losses]
attribute [go_sem] trC
end Go.Av.Fx
end
