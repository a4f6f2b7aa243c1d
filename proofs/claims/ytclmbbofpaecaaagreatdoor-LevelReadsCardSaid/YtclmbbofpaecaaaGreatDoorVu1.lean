/- The card of the law LevelReads is proved: for every argument that the card speaks of, the law, called as the card says, comes back with true and leaves the world as the card says. Conditions: those that the given statement names, and none besides. -/
set_option linter.all false
set_option linter.unusedVariables false
set_option linter.unusedSimpArgs false
set_option linter.unusedSectionVars false
open Bool renaming and_eq_true → zR
open Int renaming mul_le_mul_of_nonneg_right → qR, mul_assoc → qZ, le_refl → yF, mul_nonneg → yK, le_trans → yP
open List renaming getElem?_eq_getElem → zF, getD_eq_getElem?_getD → zI, mem_cons_self → zO, mem_cons_of_mem → zQ, mem_singleton → qL, getElem?_map → qN, getElem?_range → qT, all_eq_true → qX, not_mem_nil → yE, getElem?_set → yG, getElem?_replicate → yH, range_succ → yI, mem_cons → yL
open Nat renaming le_refl → zN, not_lt_zero → yC
open Option.some renaming injEq → yU
section
namespace Go.Fw
abbrev Mat:=List (List Int)
theorem pow_le {b:Int} (hb:1≤b) (m:Nat):∀ {n:Nat},m≤n→b ^ m≤b ^ n
 | n,h=>by
  induction n with
  | zero=>rw [Nat.le_zero.1 h];exact yF _
  | succ n ih =>
   by_cases e:m=n+1
   ·rw [e];exact yF _
   ·have h1:=ih (by omega)
    rw [Int.pow_succ]
    have h2:b ^ n * 1≤b ^ n * b:=Int.mul_le_mul_of_nonneg_left hb (Int.le_of_lt (Int.pow_pos (by omega)))
    rw [Int.mul_one] at h2
    exact yP h1 h2
def ent (W:Mat) (a b:Nat):Int:=(W.getD a []).getD b 0
def put (W:Mat) (a b:Nat) (v:Int):Mat:=W.set a ((W.getD a []).set b v)
def Sq (n:Nat) (W:Mat):Prop:=W.length=n ∧ ∀ (i:Nat) (r:List Int),W[i]? = some r→r.length=n
theorem Sq.set {n:Nat} {R:Mat} (h:Sq n R) (i:Nat) {r:List Int} (hr:i<n→r.length=n):Sq n (R.set i r):=by
 refine ⟨by simp [h.1],fun j x hx => ?_⟩
 rw [yG] at hx
 split at hx
 ·split at hx
  ·cases hx;exact hr (by rw [← h.1];assumption)
  ·cases hx
 ·exact h.2 j x hx
theorem Sq.getD {n:Nat} {R:Mat} (h:Sq n R) {i:Nat} (hi:i<n):(R.getD i []).length=n:=by
 have hl:i<R.length:=by rw [h.1];exact hi
 rw [zI,zF hl]
 exact h.2 i _ (zF hl)
theorem Sq.put {n:Nat} {W:Mat} (h:Sq n W) (a b:Nat) (v:Int):Sq n (put W a b v):=
 h.set a fun ha=>by rw [List.length_set];exact h.getD ha
theorem ent_put {n:Nat} {W:Mat} (h:Sq n W) {a b:Nat} (ha:a<n) (hb:b<n) (v:Int) (i j:Nat) :
  ent (Fw.put W a b v) i j=if i=a∧j=b then v else ent W i j:=by
 unfold ent Fw.put
 have hl:a<W.length:=by rw [h.1];exact ha
 by_cases hi:i=a
 ·subst hi
  have e:(W.set i ((W.getD i []).set b v)).getD i []=(W.getD i []).set b v:=by
   rw [zI,List.getElem?_set_self hl];rfl
  rw [e]
  have hlen:=h.getD ha
  by_cases hj:j=b
  ·subst hj
   rw [if_pos ⟨rfl,rfl⟩,zI,List.getElem?_set_self (by rw [hlen];exact hb)];rfl
  ·rw [if_neg (fun x=>hj x.2),zI,List.getElem?_set_ne (fun x=>hj x.symm),← zI]
 ·rw [if_neg (fun x=>hi x.1)]
  have e:(W.set a ((W.getD a []).set b v)).getD i []=W.getD i []:=by
   rw [zI,List.getElem?_set_ne (fun x=>hi x.symm),← zI]
  rw [e]
def upd (far:Int) (c a:Nat) (W:Mat) (b:Nat):Mat:=
 if ent W a c<far∧ent W c b<far then put W a b (min (ent W a b) (ent W a c+ent W c b)) else W
def row (far:Int) (n c:Nat) (W:Mat) (a:Nat):Mat:=(List.range n).foldl (upd far c a) W
def stage (far:Int) (n:Nat) (W:Mat) (c:Nat):Mat:=(List.range n).foldl (row far n c) W
def upto (far:Int) (n k:Nat) (W:Mat):Mat:=(List.range k).foldl (stage far n) W
theorem fold_ind {α:Type} (P:Nat→α→Prop) (f:α→Nat→α) (z:α):∀ (n:Nat),P 0 z→(∀ k,k<n → ∀ w,P k w→P (k+1) (f w k))→P n ((List.range n).foldl f z)
 | 0,h0,_=>h0
 | n+1,h0,hs=>by
  rw [yI,List.foldl_append]
  exact hs n (Nat.lt_succ_self n) _ (fold_ind P f z n h0 fun k hk=>hs k (Nat.lt_succ_of_lt hk))
theorem fold_succ {α:Type} (f:α→Nat→α) (z:α) (n:Nat):(List.range (n+1)).foldl f z=f ((List.range n).foldl f z) n:=by
 rw [yI,List.foldl_append];rfl
theorem Sq.upd {n:Nat} {W:Mat} (h:Sq n W) (far:Int) (c a b:Nat):Sq n (upd far c a W b):=by
 unfold Fw.upd;split
 ·exact h.put _ _ _
 ·exact h
theorem Sq.row {n:Nat} {W:Mat} (h:Sq n W) (far:Int) (m c a:Nat):Sq n (row far m c W a):=
 fold_ind (fun _ w=>Sq n w) _ _ _ h fun _ _ _ hw=>hw.upd _ _ _ _
theorem Sq.stage {n:Nat} {W:Mat} (h:Sq n W) (far:Int) (m c:Nat):Sq n (stage far m W c):=
 fold_ind (fun _ w=>Sq n w) _ _ _ h fun _ _ _ hw=>hw.row _ _ _ _
theorem Sq.upto {n:Nat} {W:Mat} (h:Sq n W) (far:Int) (m k:Nat):Sq n (upto far m k W):=
 fold_ind (fun _ w=>Sq n w) _ _ _ h fun _ _ _ hw=>hw.stage _ _ _
theorem ent_upd {n:Nat} {W:Mat} (h:Sq n W) {a b:Nat} (ha:a<n) (hb:b<n) (far:Int) (c i j:Nat) :
  ent (upd far c a W b) i j=if (i=a∧j=b)∧ent W a c<far∧ent W c b<far then min (ent W a b) (ent W a c+ent W c b) else ent W i j:=by
 unfold upd
 by_cases hg:ent W a c<far∧ent W c b<far
 ·rw [if_pos hg,ent_put h ha hb]
  by_cases hij:i=a∧j=b
  ·rw [if_pos hij,if_pos ⟨hij,hg⟩]
  ·rw [if_neg hij,if_neg (fun x=>hij x.1)]
 ·rw [if_neg hg,if_neg (fun x=>hg x.2)]
theorem upd_le {n:Nat} {W:Mat} (h:Sq n W) {a b:Nat} (ha:a<n) (hb:b<n) (far:Int) (c i j:Nat):ent (upd far c a W b) i j≤ent W i j:=by
 rw [ent_upd h ha hb]
 split
 ·rename_i hh
  obtain ⟨⟨rfl,rfl⟩,_⟩:=hh
  exact Int.min_le_left _ _
 ·exact yF _
theorem row_le {n:Nat} {W:Mat} (h:Sq n W) {a:Nat} (ha:a<n) (far:Int) (c i j:Nat):ent (row far n c W a) i j≤ent W i j:=
 (fold_ind (fun _ w=>Sq n w∧ent w i j≤ent W i j) _ _ n ⟨h,yF _⟩ fun k hk w hw=>⟨hw.1.upd _ _ _ _,yP (upd_le hw.1 ha hk far c i j) hw.2⟩).2
theorem stage_le {n:Nat} {W:Mat} (h:Sq n W) (far:Int) (c i j:Nat):ent (stage far n W c) i j≤ent W i j:=
 (fold_ind (fun _ w=>Sq n w∧ent w i j≤ent W i j) _ _ n ⟨h,yF _⟩ fun k hk w hw=>⟨hw.1.row _ _ _ _,yP (row_le hw.1 hk far c i j) hw.2⟩).2
theorem upto_le {n:Nat} {W:Mat} (h:Sq n W) (far:Int) (k i j:Nat):ent (upto far n k W) i j≤ent W i j:=
 (fold_ind (fun _ w=>Sq n w∧ent w i j≤ent W i j) _ _ k ⟨h,yF _⟩ fun k hk w hw=>⟨hw.1.stage _ _ _,yP (stage_le hw.1 far k i j) hw.2⟩).2
theorem upto_mono {n:Nat} {W:Mat} (h:Sq n W) (far:Int) (k i j:Nat):∀ m,ent (upto far n (k+m) W) i j≤ent (upto far n k W) i j
 | 0=>yF _
 | m+1=>by
  have e:upto far n (k+(m+1)) W=stage far n (upto far n (k+m) W) (k+m):=fold_succ _ _ _
  rw [e]
  exact yP (stage_le (h.upto far n _) far _ i j) (upto_mono h far k i j m)
def step (far:Int) (c:Nat) (W:Mat) (i j:Nat):Int:=
 if ent W i c<far∧ent W c j<far then min (ent W i j) (ent W i c+ent W c j) else ent W i j
theorem step_col {far:Int} {c:Nat} {W:Mat} (h0:ent W c c=0) (i:Nat):step far c W i c=ent W i c:=by
 unfold step;rw [h0,Int.add_zero,Int.min_self];split <;> rfl
theorem step_row {far:Int} {c:Nat} {W:Mat} (h0:ent W c c=0) (j:Nat):step far c W c j=ent W c j:=by
 unfold step;rw [h0,Int.zero_add,Int.min_self];split <;> rfl
theorem row_ent {n:Nat} {W w:Mat} {far:Int} {c a:Nat} (hc:c<n) (ha:a<n) (h0:ent W c c=0) (hs:Sq n w)
  (hw:∀ i j,i<n→j<n→ent w i j=if i<a then step far c W i j else ent W i j) :
  ∀ i j,i<n→j<n→ent (row far n c w a) i j=if i<a+1 then step far c W i j else ent W i j:=by
 have key:=(fold_ind (fun b v=>Sq n v ∧ ∀ i j,i<n→j<n→ent v i j=if i<a∨(i=a∧j<b) then step far c W i j else ent W i j) (upd far c a) w n
  ⟨hs,fun i j hi hj=>by rw [hw i j hi hj];simp⟩ ?_).2
 ·intro i j hi hj
  have:=key i j hi hj
  unfold row
  rw [this]
  by_cases h:i<a+1
  ·rw [if_pos h,if_pos (by omega)]
  ·rw [if_neg h,if_neg (by omega)]
 ·rintro b hb v ⟨hv,he⟩
  refine ⟨hv.upd _ _ _ _,fun i j hi hj => ?_⟩
  have e1:ent v a c=ent W a c:=by
   rw [he a c ha hc,step_col h0];split <;> rfl
  have e2:ent v c b=ent W c b:=by
   rw [he c b hc hb,step_row h0];split <;> rfl
  have e3:ent v a b=ent W a b:=by
   rw [he a b ha hb,if_neg (by omega)]
  rw [ent_upd hv ha hb,e1,e2,e3]
  by_cases hij:i=a∧j=b
  ·obtain ⟨rfl,rfl⟩:=hij
   rw [if_pos (show i<i∨i=i∧j<j+1 by omega)]
   unfold step
   by_cases hg:ent W i c<far∧ent W c j<far
   ·rw [if_pos ⟨⟨rfl,rfl⟩,hg⟩,if_pos hg]
   ·rw [if_neg (fun x=>hg x.2),if_neg hg,e3]
  ·rw [if_neg (fun x=>hij x.1),he i j hi hj]
   by_cases h:i<a∨i=a∧j<b
   ·rw [if_pos h,if_pos (by omega)]
   ·rw [if_neg h,if_neg (by omega)]
theorem stage_ent {n:Nat} {W:Mat} {far:Int} {c:Nat} (hc:c<n) (h0:ent W c c=0) (hs:Sq n W) :
  ∀ i j,i<n→j<n→ent (stage far n W c) i j=step far c W i j:=by
 have key:=(fold_ind (fun a v=>Sq n v ∧ ∀ i j,i<n→j<n→ent v i j=if i<a then step far c W i j else ent W i j) (row far n c) W n
  ⟨hs,fun i j hi hj=>by simp⟩ ?_).2
 ·intro i j hi hj
  have:=key i j hi hj
  rw [if_pos hi] at this
  exact this
 ·rintro a ha v ⟨hv,he⟩
  exact ⟨hv.row _ _ _ _,row_ent hc ha h0 hv he⟩
structure Tri (far:Int) (n k:Nat) (U:Int) (W:Mat):Prop where
 small:∀ i j,i<n→j<n→ent W i j<far→ent W i j≤U
 tri:∀ c,c<k → ∀ i j,i<n→j<n→ent W i c<far→ent W c j<far→ent W i j≤ent W i c+ent W c j
theorem Tri.stage {far:Int} {n k:Nat} {U:Int} {W:Mat} (h:Tri far n k U W) (hs:Sq n W) (hk:k<n) (h0:∀ i,i<n→ent W i i=0)
  (hU:0≤U) (hf:2 * U<far):Tri far n (k+1) (2 * U) (stage far n W k):=by
 have he:=stage_ent (far:=far) hk (h0 k hk) hs
 refine ⟨fun i j hi hj hlt => ?_,fun c hc i j hi hj h1 h2 => ?_⟩
 ·rw [he i j hi hj] at hlt ⊢
  unfold step at hlt ⊢
  split
  ·rename_i hg
   have a1:=h.small i k hi hk hg.1
   have a2:=h.small k j hk hj hg.2
   have:=Int.min_le_right (ent W i j) (ent W i k+ent W k j)
   omega
  ·rename_i hg
   rw [if_neg hg] at hlt
   have:=h.small i j hi hj hlt
   omega
 ·have hcn:c<n:=by omega
  rw [he i c hi hcn] at h1 ⊢
  rw [he c j hcn hj] at h2 ⊢
  rw [he i j hi hj]
  by_cases hck:c=k
  ·subst hck
   rw [step_col (h0 c hcn)] at h1 ⊢
   rw [step_row (h0 c hcn)] at h2 ⊢
   unfold step
   rw [if_pos ⟨h1,h2⟩]
   exact Int.min_le_right _ _
  ·have hc':c<k:=by omega
   have t1:∀ i j,i<n→j<n→ent W i c<far→ent W c j<far→ent W i j≤ent W i c+ent W c j:=h.tri c hc'
   have hb:∀ i j,i<n→j<n→ent W i c<far→ent W c j<far→ent W i j<far:=fun i j hi hj x y=>by
    have:=t1 i j hi hj x y
    have:=h.small i c hi hcn x
    have:=h.small c j hcn hj y
    omega
   have sle:∀ i j,step far k W i j≤ent W i j:=fun i j=>by
    unfold step;split
    ·exact Int.min_le_left _ _
    ·exact yF _
   have sle2:∀ i j,ent W i k<far→ent W k j<far→step far k W i j≤ent W i k+ent W k j:=fun i j x y=>by
    unfold step;rw [if_pos ⟨x,y⟩];exact Int.min_le_right _ _
   have cs:∀ i j,step far k W i j=ent W i j∨(ent W i k<far∧ent W k j<far∧step far k W i j=ent W i k+ent W k j):=fun i j=>by
    unfold step;split
    ·rename_i hg
     rcases Int.le_total (ent W i j) (ent W i k+ent W k j) with q | q
     ·left;exact Int.min_eq_left q
     ·right;exact ⟨hg.1,hg.2,Int.min_eq_right q⟩
    ·left;rfl
   rcases cs i c with e1 | ⟨f1,f2,e1⟩ <;> rcases cs c j with e2 | ⟨g1,g2,e2⟩
   ·rw [e1] at h1 ⊢;rw [e2] at h2 ⊢
    exact yP (sle i j) (t1 i j hi hj h1 h2)
   ·rw [e1] at h1 ⊢;rw [e2]
    have:=t1 i k hi hk h1 g1
    have:=sle2 i j (hb i k hi hk h1 g1) g2
    omega
   ·rw [e2] at h2 ⊢;rw [e1]
    have:=t1 k j hk hj f2 h2
    have:=sle2 i j f1 (hb k j hk hj f2 h2)
    omega
   ·rw [e1,e2]
    have:=t1 k k hk hk f2 g1
    rw [h0 k hk] at this
    have:=sle2 i j f1 g2
    omega
theorem upto_tri {far:Int} {n:Nat} {U:Int} {W:Mat} (hs:Sq n W) (h0:∀ i,i<n→ent W i i=0) (hU:0≤U) (hf:2 ^ (n+1) * U<far)
  (hsm:∀ i j,i<n→j<n→ent W i j<far→ent W i j≤U) (hd:∀ i,i<n→0≤ent (upto far n n W) i i) :
  ∀ k,k≤n→Tri far n k (2 ^ k * U) (upto far n k W)
 | 0,_=>⟨fun i j hi hj h=>by
  have e:upto far n 0 W=W:=rfl
  rw [e] at h ⊢
  have:=hsm i j hi hj h
  simpa using this,fun c hc=>absurd hc (yC _)⟩
 | k+1,hk=>by
  have ih:=upto_tri hs h0 hU hf hsm hd k (by omega)
  have hz:∀ i,i<n→ent (upto far n k W) i i=0:=fun i hi=>by
   have a1:=upto_le hs far k i i
   rw [h0 i hi] at a1
   have a2:=upto_mono hs far k i i (n - k)
   rw [show k+(n - k)=n by omega] at a2
   have:=hd i hi
   omega
  have hp:(2:Int) ^ (k+1)≤2 ^ (n+1):=pow_le (by decide) _ (by omega)
  have hU':0≤2 ^ k * U:=yK (Int.le_of_lt (Int.pow_pos (by decide))) hU
  have h2:2 * (2 ^ k * U)=2 ^ (k+1) * U:=by rw [Int.pow_succ,Int.mul_comm (2 ^ k) 2,qZ]
  have:=ih.stage (hs.upto far n k) (by omega) hz hU' (by
   rw [h2]
   exact Int.lt_of_le_of_lt (qR hp hU) hf)
  rw [h2] at this
  have e:upto far n (k+1) W=Fw.stage far n (upto far n k W) k:=fold_succ _ _ _
  rw [e];exact this
def Obeys (far:Int) (n:Nat) (W:Mat) (x:Nat→Int):Prop:=∀ i j,i<n→j<n→ent W i j<far→x j - x i≤ent W i j
theorem Obeys.upd {far:Int} {n:Nat} {W:Mat} {x:Nat→Int} (h:Obeys far n W x) (hs:Sq n W) {a b c:Nat} (ha:a<n) (hb:b<n) (hc:c<n):Obeys far n (upd far c a W b) x:=by
 intro i j hi hj hlt
 rw [ent_upd hs ha hb] at hlt ⊢
 split
 ·rename_i hg
  rw [if_pos hg] at hlt
  obtain ⟨⟨rfl,rfl⟩,g1,g2⟩:=hg
  have a1:=h i c hi hc g1
  have a2:=h c j hc hj g2
  rcases Int.le_total (ent W i j) (ent W i c+ent W c j) with q | q
  ·rw [Int.min_eq_left q] at hlt ⊢;exact h i j hi hj hlt
  ·rw [Int.min_eq_right q];omega
 ·rename_i hg
  rw [if_neg hg] at hlt
  exact h i j hi hj hlt
theorem Obeys.upto {far:Int} {n:Nat} {W:Mat} {x:Nat→Int} (h:Obeys far n W x) (hs:Sq n W) {k:Nat} (hk:k≤n):Obeys far n (upto far n k W) x:=
 (fold_ind (fun _ w=>Sq n w∧Obeys far n w x) _ _ k ⟨hs,h⟩ fun c hc w hw=>fold_ind (fun _ w=>Sq n w∧Obeys far n w x) _ _ n hw fun a ha w hw =>
  fold_ind (fun _ w=>Sq n w∧Obeys far n w x) _ _ n hw fun b hb w hw=>⟨hw.1.upd _ _ _ _,hw.2.upd hw.1 ha hb (by omega)⟩).2
structure Low (n c a:Nat) (X:Int) (W:Mat):Prop where
 all:∀ i j,i<n→j<n → -(7 * X)≤ent W i j
 new:∀ i j,a≤i→i<n→j<n → -X≤ent W i j
 own:∀ j,j<n → -(3 * X)≤ent W c j
structure LowIn (n c a b:Nat) (X:Int) (W:Mat):Prop where
 all:∀ i j,i<n→j<n → -(7 * X)≤ent W i j
 new:∀ i j,a+1≤i→i<n→j<n → -X≤ent W i j
 own:∀ j,j<n → -(3 * X)≤ent W c j
 here:∀ j,b≤j→j<n → -X≤ent W a j
 col:-(4 * X)≤ent W a c
 diag:a=c → -(2 * X)≤ent W a c
theorem Low.to {n c a:Nat} {X:Int} {W:Mat} (h:Low n c a X W) (hX:0≤X) (ha:a<n) (hc:c<n):LowIn n c a 0 X W:=
 ⟨h.all,fun i j h1=>h.new i j (by omega),h.own,fun j _ hj=>h.new a j (zN _) ha hj,by have:=h.new a c (zN _) ha hc;omega,fun _=>by have:=h.new a c (zN _) ha hc;omega⟩
theorem LowIn.upd {n c a b:Nat} {X:Int} {W:Mat} (h:LowIn n c a b X W) (hX:0≤X) (hs:Sq n W) (ha:a<n) (hb:b<n) (hc:c<n) (far:Int):LowIn n c a (b+1) X (upd far c a W b):=by
 have e:=ent_upd hs ha hb far c
 have hv:-(7 * X)≤ent W a c+ent W c b:=by
  have:=h.col;have:=h.own b hb;omega
 have hv3:a=c → -(3 * X)≤ent W a c+ent W c b:=fun q=>by
  subst q
  have:=h.diag rfl;have:=h.here b (zN _) hb;omega
 have hvc:b=c → -(4 * X)≤ent W a c+ent W c b:=fun q=>by
  subst q
  have:=h.here b (zN _) hb;have:=h.own b hb;omega
 have hvd:a=c→b=c → -(2 * X)≤ent W a c+ent W c b:=fun q r=>by
  subst q;subst r
  have:=h.here b (zN _) hb;omega
 refine ⟨fun i j hi hj => ?_,fun i j h1 hi hj => ?_,fun j hj => ?_,fun j h1 hj => ?_, ?_,fun q => ?_⟩
 ·rw [e];split
  ·rename_i g;obtain ⟨⟨rfl,rfl⟩,_⟩:=g
   have:=h.all i j hi hj;omega
  ·exact h.all i j hi hj
 ·rw [e,if_neg (by omega)];exact h.new i j h1 hi hj
 ·rw [e];split
  ·rename_i g;obtain ⟨⟨q,rfl⟩,_⟩:=g
   have:=hv3 q.symm;have:=h.own j hj;subst q;omega
  ·exact h.own j hj
 ·rw [e,if_neg (by omega)];exact h.here j (by omega) hj
 ·rw [e];split
  ·rename_i g;obtain ⟨⟨_,q⟩,_⟩:=g
   have:=hvc q.symm;have:=h.col;subst q;omega
  ·exact h.col
 ·rw [e];split
  ·rename_i g;obtain ⟨⟨_,r⟩,_⟩:=g
   have:=hvd q r.symm;have:=h.diag q;subst r;omega
  ·exact h.diag q
theorem LowIn.back {n c a:Nat} {X:Int} {W:Mat} (h:LowIn n c a n X W):Low n c (a+1) X W:=⟨h.all,fun i j h1=>h.new i j h1,h.own⟩
theorem Low.start {n:Nat} {X:Int} {W:Mat} (hX:0≤X) (h:∀ i j,i<n→j<n → -X≤ent W i j) {c:Nat} (hc:c<n):Low n c 0 X W:=
 ⟨fun i j hi hj=>by have:=h i j hi hj;omega,fun i j _ hi hj=>h i j hi hj,fun j hj=>by have:=h c j hc hj;omega⟩
theorem lowIn_at {n c a:Nat} {X:Int} {W:Mat} (hX:0≤X) (hs:Sq n W) (ha:a<n) (hc:c<n) (far:Int) (h:LowIn n c a 0 X W):∀ b,b≤n→LowIn n c a b X ((List.range b).foldl (upd far c a) W)
 | 0,_=>h
 | b+1,hb=>by
  rw [fold_succ]
  exact (lowIn_at hX hs ha hc far h b (by omega)).upd hX (fold_ind (fun _ w=>Sq n w) _ _ _ hs fun _ _ _ hw=>hw.upd _ _ _ _) ha (by omega) hc far
theorem low_at {n c:Nat} {X:Int} {W:Mat} (hX:0≤X) (hs:Sq n W) (hc:c<n) (far:Int) (h:∀ i j,i<n→j<n → -X≤ent W i j):∀ a,a≤n→Low n c a X ((List.range a).foldl (row far n c) W)
 | 0,_=>Low.start hX h hc
 | a+1,ha=>by
  rw [fold_succ]
  exact (lowIn_at hX (fold_ind (fun _ w=>Sq n w) _ _ _ hs fun _ _ _ hw=>hw.row _ _ _ _) (by omega) hc far ((low_at hX hs hc far h a (by omega)).to hX (by omega) hc) n (zN _)).back
theorem low_upto {n:Nat} {X:Int} {W:Mat} (hX:0≤X) (hs:Sq n W) (far:Int) (h:∀ i j,i<n→j<n → -X≤ent W i j):∀ k,k≤n → ∀ i j,i<n→j<n → -(7 ^ k * X)≤ent (upto far n k W) i j
 | 0,_=>fun i j hi hj=>by
  have e:upto far n 0 W=W:=rfl
  rw [e]
  have:=h i j hi hj
  simpa using this
 | k+1,hk=>fun i j hi hj=>by
  have hp:(0:Int)≤7 ^ k * X:=yK (Int.le_of_lt (Int.pow_pos (by decide))) hX
  have:=(low_at hp (hs.upto far n k) (show k<n by omega) far (low_upto hX hs far h k (by omega)) n (zN _)).all i j hi hj
  have e:upto far n (k+1) W=stage far n (upto far n k W) k:=fold_succ _ _ _
  rw [e,Int.pow_succ,Int.mul_comm (7 ^ k) 7,qZ]
  exact this
theorem low_in {n:Nat} {X:Int} {W:Mat} (hX:0≤X) (hs:Sq n W) (far:Int) (h:∀ i j,i<n→j<n → -X≤ent W i j) {c a b:Nat} (hc:c<n) (ha:a<n) (hb:b≤n) :
  ∀ i j,i<n→j<n → -(7 ^ n * X)≤ent ((List.range b).foldl (upd far c a) ((List.range a).foldl (row far n c) (upto far n c W))) i j:=by
 intro i j hi hj
 have hp:(0:Int)≤7 ^ c * X:=yK (Int.le_of_lt (Int.pow_pos (by decide))) hX
 have hq:=hs.upto far n c
 have:=(lowIn_at hp (fold_ind (fun _ w=>Sq n w) _ _ _ hq fun _ _ _ hw=>hw.row _ _ _ _) ha hc far ((low_at hp hq hc far (low_upto hX hs far h c (by omega)) a (by omega)).to hp ha hc) b hb).all i j hi hj
 have hm:(7:Int) ^ (c+1)≤7 ^ n:=pow_le (by decide) _ (by omega)
 have hm':=qR hm hX
 rw [Int.pow_succ,Int.mul_comm (7 ^ c) 7,qZ] at hm'
 refine yP ?_ this
 omega
theorem high_in {n:Nat} {W:Mat} (hs:Sq n W) (far:Int) {c a b:Nat} (ha:a≤n) (hb:b≤n) (i j:Nat) (hab:b=0∨a<n) :
  ent ((List.range b).foldl (upd far c a) ((List.range a).foldl (row far n c) (upto far n c W))) i j≤ent W i j:=by
 have h1:=upto_le hs far c i j
 have h2:=fold_ind (fun _ w=>Sq n w∧ent w i j≤ent W i j) (row far n c) (upto far n c W) a ⟨hs.upto far n c,h1⟩ fun k hk w hw=>⟨hw.1.row _ _ _ _,yP (row_le hw.1 (by omega) far c i j) hw.2⟩
 exact (fold_ind (fun _ w=>Sq n w∧ent w i j≤ent W i j) (upd far c a) _ b h2 fun k hk w hw=>⟨hw.1.upd _ _ _ _,yP (upd_le hw.1 (by omega) (by omega) far c i j) hw.2⟩).2
def closed (far:Int) (n:Nat) (W:Mat):Option Mat:=
 if (List.range n).all fun i=>decide (0≤ent (upto far n n W) i i) then some (upto far n n W) else none
theorem closed_none {far:Int} {n:Nat} {W:Mat} (hs:Sq n W) (hf:0<far) (h:closed far n W=none) (x:Nat→Int):¬ Obeys far n W x:=by
 intro hx
 unfold closed at h
 split at h
 ·cases h
 ·rename_i hn
  apply hn
  rw [qX]
  intro i hi
  have hi':=List.mem_range.1 hi
  rw [decide_eq_true_iff]
  have ho:=hx.upto hs (zN n)
  by_cases hlt:ent (upto far n n W) i i<far
  ·have:=ho i i hi' hi' hlt;omega
  ·omega
structure Closed (far:Int) (n:Nat) (W V:Mat):Prop where
 sq:Sq n V
 le:∀ i j,ent V i j≤ent W i j
 tri:∀ i k j,i<n→k<n→j<n→ent V i k<far→ent V k j<far→ent V i j≤ent V i k+ent V k j∧ent V i j<far
 diag:∀ i,i<n→ent V i i=0
 obeys:∀ x,Obeys far n W x→Obeys far n V x
theorem closed_some {far:Int} {n:Nat} {U:Int} {W V:Mat} (hs:Sq n W) (h0:∀ i,i<n→ent W i i=0) (hU:0≤U) (hf:2 ^ (n+1) * U<far)
  (hsm:∀ i j,i<n→j<n→ent W i j<far→ent W i j≤U) (h:closed far n W=some V):Closed far n W V:=by
 unfold closed at h
 split at h
 ·rename_i hall
  simp only [yU] at h
  subst h
  rw [qX] at hall
  have hd:∀ i,i<n→0≤ent (upto far n n W) i i:=fun i hi=>by simpa using hall i (List.mem_range.2 hi)
  have ht:=upto_tri hs h0 hU hf hsm hd n (zN _)
  refine ⟨hs.upto far n n,fun i j=>upto_le hs far n i j,fun i k j hi hk hj h1 h2 => ?_,fun i hi => ?_,fun x hx=>hx.upto hs (zN _)⟩
  ·have t:=ht.tri k hk i j hi hj h1 h2
   have s1:=ht.small i k hi hk h1
   have s2:=ht.small k j hk hj h2
   refine ⟨t, ?_⟩
   rw [Int.pow_succ,Int.mul_comm (2 ^ n) 2,qZ] at hf
   omega
  ·have:=upto_le hs far n i i
   rw [h0 i hi] at this
   have:=hd i hi
   omega
 ·cases h
structure Bd where
 a:Nat
 b:Nat
 m:Int
def Bd.holds (c:Bd) (x:Nat→Int):Prop:=x c.b - x c.a≤c.m
def addc (W:Mat) (c:Bd):Mat:=put W c.a c.b (min (ent W c.a c.b) c.m)
structure Good (far U B:Int) (n:Nat) (W:Mat):Prop where
 sq:Sq n W
 diag:∀ i,i<n→ent W i i=0
 high:∀ i j,i<n→j<n→ent W i j≤far
 small:∀ i j,i<n→j<n→ent W i j<far→ent W i j≤U
 low:∀ i j,i<n→j<n → -B≤ent W i j
structure Bd.Ok (U B:Int) (n:Nat) (c:Bd):Prop where
 a:c.a<n
 b:c.b<n
 ne:c.a≠c.b
 low:-B≤c.m
 high:c.m≤U
theorem ent_addc {n:Nat} {W:Mat} (h:Sq n W) {c:Bd} (ha:c.a<n) (hb:c.b<n) (i j:Nat):ent (addc W c) i j=if i=c.a∧j=c.b then min (ent W c.a c.b) c.m else ent W i j:=
 ent_put h ha hb _ i j
theorem Good.addc {far U B:Int} {n:Nat} {W:Mat} (h:Good far U B n W) {c:Bd} (hc:c.Ok U B n):Good far U B n (addc W c):=by
 have e:=ent_addc h.sq hc.a hc.b
 refine ⟨h.sq.put _ _ _,fun i hi => ?_,fun i j hi hj => ?_,fun i j hi hj hlt => ?_,fun i j hi hj => ?_⟩
 ·rw [e,if_neg (by have:=hc.ne;omega)];exact h.diag i hi
 ·rw [e];split
  ·rename_i g;have:=h.high i j hi hj;rw [g.1,g.2] at this;omega
  ·exact h.high i j hi hj
 ·rw [e] at hlt ⊢;split
  ·have:=hc.high;omega
  ·rename_i g;rw [if_neg g] at hlt;exact h.small i j hi hj hlt
 ·rw [e];split
  ·rename_i g;have:=h.low i j hi hj;rw [g.1,g.2] at this;have:=hc.low;omega
  ·exact h.low i j hi hj
theorem Good.fold {far U B:Int} {n:Nat}:∀ {cs:List Bd} {W:Mat},Good far U B n W→(∀ c∈cs,c.Ok U B n)→Good far U B n (cs.foldl Fw.addc W)
 | [],_,h,_=>h
 | c :: cs,_,h,hc=>(h.addc (hc c zO)).fold fun d hd=>hc d (zQ _ hd)
theorem obeys_addc {far U B:Int} {n:Nat} {W:Mat} (h:Good far U B n W) {c:Bd} (hc:c.Ok U B n) (hU:U<far) (x:Nat→Int) :
  Obeys far n (addc W c) x↔Obeys far n W x∧c.holds x:=by
 have e:=ent_addc h.sq hc.a hc.b
 constructor
 ·intro ho
  refine ⟨fun i j hi hj hlt => ?_, ?_⟩
  ·have:=ho i j hi hj
   rw [e] at this
   by_cases g:i=c.a∧j=c.b
   ·rw [if_pos g] at this
    rw [g.1,g.2] at hlt this ⊢
    have:=this (by omega)
    omega
   ·rw [if_neg g] at this;exact this hlt
  ·have:=ho c.a c.b hc.a hc.b
   rw [e,if_pos ⟨rfl,rfl⟩] at this
   have hh:=hc.high
   have:=this (by omega)
   unfold Bd.holds;omega
 ·rintro ⟨ho,hh⟩ i j hi hj hlt
  rw [e] at hlt ⊢
  by_cases g:i=c.a∧j=c.b
  ·rw [if_pos g] at hlt ⊢
   rw [g.1,g.2]
   unfold Bd.holds at hh
   rcases Int.le_total (ent W c.a c.b) c.m with q | q
   ·rw [Int.min_eq_left q] at hlt ⊢;exact ho _ _ hc.a hc.b hlt
   ·rw [Int.min_eq_right q];exact hh
  ·rw [if_neg g] at hlt ⊢;exact ho i j hi hj hlt
theorem obeys_fold {far U B:Int} {n:Nat} (hU:U<far) (x:Nat→Int):∀ {cs:List Bd} {W:Mat},Good far U B n W→(∀ c∈cs,c.Ok U B n) →
  (Obeys far n (cs.foldl addc W) x↔Obeys far n W x ∧ ∀ c∈cs,c.holds x)
 | [],W,h,_=>by simp
 | c :: cs,W,h,hc=>by
  have h1:=hc c zO
  rw [List.foldl_cons,obeys_fold hU x (h.addc h1) fun d hd=>hc d (zQ _ hd),obeys_addc h h1 hU]
  simp only [List.forall_mem_cons]
  exact and_assoc
def base (far:Int) (n:Nat):Mat:=(List.range n).map fun a=>(List.replicate n far).set a 0
theorem ent_base {far:Int} {n i j:Nat} (hi:i<n) (hj:j<n):ent (base far n) i j=if i=j then 0 else far:=by
 unfold ent base
 have e:(List.map (fun a=>(List.replicate n far).set a 0) (List.range n)).getD i []=(List.replicate n far).set i 0:=by
  rw [zI,qN,qT hi];rfl
 rw [e,zI,yG]
 by_cases h:i=j
 ·subst h;simp [hi]
 ·rw [if_neg h,if_neg h,yH,if_pos hj];rfl
theorem Good.base {far U B:Int} {n:Nat} (hf:0<far) (hU:0≤U) (hB:0≤B):Good far U B n (base far n):=by
 refine ⟨⟨by simp [Fw.base],fun i r h => ?_⟩,fun i hi=>by rw [ent_base hi hi,if_pos rfl],fun i j hi hj => ?_,fun i j hi hj => ?_,fun i j hi hj => ?_⟩
 ·have:=List.mem_of_getElem? h
  simp only [Fw.base,List.mem_map] at this
  obtain ⟨a,_,rfl⟩:=this
  simp
 ·rw [ent_base hi hj];split <;> omega
 ·rw [ent_base hi hj];split <;> omega
 ·rw [ent_base hi hj];split <;> omega
theorem obeys_base (far:Int) (n:Nat) (x:Nat→Int):Obeys far n (base far n) x:=by
 intro i j hi hj hlt
 rw [ent_base hi hj] at hlt ⊢
 split
 ·rename_i e;subst e;omega
 ·rename_i e;rw [if_neg e] at hlt;omega
theorem addc_le {n:Nat} {W:Mat} (h:Sq n W) {c:Bd} (ha:c.a<n) (hb:c.b<n) (i j:Nat):ent (addc W c) i j≤ent W i j:=by
 rw [ent_addc h ha hb];split
 ·rename_i g;rw [g.1,g.2];omega
 ·omega
theorem fold_le {n:Nat}:∀ {cs:List Bd} {W:Mat},Sq n W→(∀ c∈cs,c.a<n∧c.b<n) → ∀ i j,ent (cs.foldl addc W) i j≤ent W i j
 | [],_,_,_,_,_=>yF _
 | c :: cs,W,h,hc,i,j=>by
  have h1:=hc c zO
  exact yP (fold_le (h.put _ _ _) (fun d hd=>hc d (zQ _ hd)) i j) (addc_le h h1.1 h1.2 i j)
theorem fold_mem {n:Nat}:∀ {cs:List Bd} {W:Mat},Sq n W→(∀ c∈cs,c.a<n∧c.b<n) → ∀ c∈cs,ent (cs.foldl addc W) c.a c.b≤c.m
 | d :: cs,W,h,hc,c,hm=>by
  have h1:=hc d zO
  rcases List.mem_cons.1 hm with rfl | hm
  ·refine yP (fold_le (h.put _ _ _) (fun d hd=>hc d (zQ _ hd)) _ _) ?_
   show ent (addc W c) c.a c.b≤_
   rw [ent_addc h h1.1 h1.2,if_pos ⟨rfl,rfl⟩];omega
  ·exact fold_mem (h.put _ _ _) (fun d hd=>hc d (zQ _ hd)) c hm
end Go.Fw
end
section
namespace Go.Wk
open Go.Fw (Bd)
def Pth {α:Type} (f:α→Bd) (u:Nat):List α→Nat→Prop
 | [],v=>u=v
 | x :: l,v=>(f x).a=u∧Pth f (f x).b l v
def tot {α:Type} (f:α→Bd):List α→Int
 | []=>0
 | x :: l=>(f x).m+tot f l
variable {α:Type} {f:α→Bd}
theorem tot_app:∀ (l m:List α),tot f (l ++ m)=tot f l+tot f m
 | [],m=>by simp [tot]
 | x :: l,m=>by
  show (f x).m+tot f (l ++ m)=(f x).m+tot f l+tot f m
  rw [tot_app l m];omega
theorem zBn:∀ {l m:List α} {u v:Nat},Pth f u (l ++ m) v ↔ ∃ w,Pth f u l w∧Pth f w m v
 | [],m,u,v=>⟨fun h=>⟨u,rfl,h⟩,fun ⟨w,h1,h2⟩=>by cases h1;exact h2⟩
 | x :: l,m,u,v=>by
  constructor
  ·rintro ⟨h1,h2⟩
   obtain ⟨w,h3,h4⟩:=zBn.1 h2
   exact ⟨w,⟨h1,h3⟩,h4⟩
  ·rintro ⟨w,⟨h1,h3⟩,h4⟩
   exact ⟨h1,zBn.2 ⟨w,h3,h4⟩⟩
theorem pth_last {l:List α} {x:α} {u v:Nat} (h:Pth f u (l ++ [x]) v):(f x).b=v:=by
 obtain ⟨w,_,h2⟩:=zBn.1 h
 exact h2.2
theorem dup_split (g:α→Nat):∀ {l:List α},¬ (l.map g).Nodup → ∃ A x B y C,l=A ++ x :: (B ++ y :: C)∧g x=g y
 | [],h=>absurd List.nodup_nil h
 | a :: t,h=>by
  by_cases hm:g a∈t.map g
  ·obtain ⟨y,hy,e⟩:=List.mem_map.1 hm
   obtain ⟨B,C,rfl⟩:=List.append_of_mem hy
   exact ⟨[],a,B,y,C,rfl,e.symm⟩
  ·have:¬ (t.map g).Nodup:=fun hn=>h (by rw [List.map_cons,List.nodup_cons];exact ⟨hm,hn⟩)
   obtain ⟨A,x,B,y,C,rfl,e⟩:=dup_split g this
   exact ⟨a :: A,x,B,y,C,rfl,e⟩
structure Simple (f:α→Bd) (l:List α):Prop where
 ne:l≠[]
 closed:∃ u,Pth f u l u
 once:(l.map fun x=>(f x).b).Nodup
theorem mean_or {a b p q:Int} (hp:0<p) (hq:0<q):a * (p+q)≤(a+b) * p∨b * (p+q)≤(a+b) * q:=by
 have h1:(a+b) * p - a * (p+q)=b * p - a * q:=by rw [Int.add_mul,Int.mul_add];omega
 have h2:(a+b) * q - b * (p+q)=a * q - b * p:=by rw [Int.add_mul,Int.mul_add];omega
 rcases Int.le_total (a * q) (b * p) with h | h
 ·left;omega
 ·right;omega
theorem mean_trans {m p t P l L:Int} (hP:0<P) (hm:0≤m) (hL:0≤L) (h1:t * P≤p * m) (h2:p * L≤l * P):t * L≤l * m:=by
 have a1:t * P * L≤p * m * L:=qR h1 hL
 have a2:p * L * m≤l * P * m:=qR h2 hm
 have e1:p * m * L=p * L * m:=by rw [qZ,Int.mul_comm m L,← qZ]
 have e2:t * P * L=t * L * P:=by rw [qZ,Int.mul_comm P L,← qZ]
 have e3:l * P * m=l * m * P:=by rw [qZ,Int.mul_comm P m,← qZ]
 rw [e1] at a1
 rw [e2] at a1
 rw [e3] at a2
 exact Int.le_of_mul_le_mul_right (yP a1 a2) hP
theorem simple_in (f:α→Bd):∀ (n:Nat) (l:List α),l.length=n→l≠[]→(∃ u,Pth f u l u) → ∃ m,Simple f m∧m.length≤l.length∧(∀ x∈m,x∈l)∧tot f m * l.length≤tot f l * m.length:=by
 intro n
 induction n using Nat.strongRecOn with
 | ind n ih =>
  intro l hn hne ⟨u,hu⟩
  by_cases hs:(l.map fun x=>(f x).b).Nodup
  ·exact ⟨l,⟨hne,⟨u,hu⟩,hs⟩,zN _,fun x h=>h,yF _⟩
  obtain ⟨A,x,B,y,C,rfl,e⟩:=dup_split _ hs
  have hl:(A ++ x :: (B ++ y :: C))=(A ++ [x]) ++ ((B ++ [y]) ++ C):=by simp
  rw [hl] at hu
  obtain ⟨w1,p1,p2⟩:=zBn.1 hu
  obtain ⟨w2,p3,p4⟩:=zBn.1 p2
  have e1:=pth_last p1
  have e2:=pth_last p3
  have ew:w2=w1:=by rw [← e1,← e2];exact e.symm
  subst ew
  have hQ:Pth f u ((A ++ [x]) ++ C) u:=zBn.2 ⟨w2,p1,p4⟩
  have lP:(B ++ [y]).length=B.length+1:=by simp
  have lQ:((A ++ [x]) ++ C).length=A.length+1+C.length:=by simp;omega
  have lL:(A ++ x :: (B ++ y :: C)).length=(B ++ [y]).length+((A ++ [x]) ++ C).length:=by simp;omega
  have tL:tot f (A ++ x :: (B ++ y :: C))=tot f (B ++ [y])+tot f ((A ++ [x]) ++ C):=by
   rw [hl,tot_app (A ++ [x]) _,tot_app (B ++ [y]) C,tot_app (A ++ [x]) C];omega
  have key:∀ P:List α,P≠[]→(∃ u,Pth f u P u)→P.length<n→(∀ z∈P,z∈A ++ x :: (B ++ y :: C))→tot f P * (A ++ x :: (B ++ y :: C)).length≤tot f (A ++ x :: (B ++ y :: C)) * P.length →
    ∃ m,Simple f m∧m.length≤(A ++ x :: (B ++ y :: C)).length∧(∀ x'∈m,x'∈A ++ x :: (B ++ y :: C))∧tot f m * (A ++ x :: (B ++ y :: C)).length≤tot f (A ++ x :: (B ++ y :: C)) * m.length:=by
   intro P hP hc hlt hin hmean
   obtain ⟨m,h1,h2,h3,h4⟩:=ih P.length hlt P rfl hP hc
   have hpos:0<P.length:=List.length_pos_iff.2 hP
   exact ⟨m,h1,by omega,fun z hz=>hin z (h3 z hz),mean_trans (by omega:(0:Int)<P.length) (by omega) (by omega) h4 hmean⟩
  rcases mean_or (a:=tot f (B ++ [y])) (b:=tot f ((A ++ [x]) ++ C)) (p:=(B ++ [y]).length) (q:=((A ++ [x]) ++ C).length) (by omega) (by omega) with h | h
  ·refine key (B ++ [y]) (by simp) ⟨w2,p3⟩ (by omega) (fun z hz => ?_) ?_
   ·simp only [List.mem_append,yL,yE,or_false] at hz ⊢
    rcases hz with hz | hz
    ·exact .inr (.inr (.inl hz))
    ·exact .inr (.inr (.inr (.inl hz)))
   ·rw [lL,tL,Int.natCast_add];exact h
  ·refine key ((A ++ [x]) ++ C) (by simp) ⟨u,hQ⟩ (by omega) (fun z hz => ?_) ?_
   ·simp only [List.mem_append,yL,yE,or_false] at hz ⊢
    rcases hz with (hz | hz) | hz
    ·exact .inl hz
    ·exact .inr (.inl hz)
    ·exact .inr (.inr (.inr (.inr hz)))
   ·rw [lL,tL,Int.natCast_add];exact h
theorem simple_neg {l:List α} (hne:l≠[]) (hc:∃ u,Pth f u l u) (ht:tot f l<0):∃ m,Simple f m∧m.length≤l.length∧(∀ x∈m,x∈l)∧tot f m<0:=by
 obtain ⟨m,h1,h2,h3,h4⟩:=simple_in f l.length l rfl hne hc
 refine ⟨m,h1,h2,h3, ?_⟩
 have p1:0<m.length:=List.length_pos_iff.2 h1.ne
 have p2:0<l.length:=List.length_pos_iff.2 hne
 have p3:tot f l * m.length<0:=Int.mul_neg_of_neg_of_pos ht (by omega)
 have p4:tot f m * l.length<0:=by omega
 exact Int.not_le.1 fun h=>by
  have:=yK h (by omega:(0:Int)≤l.length)
  omega
theorem nodup_len:∀ (n:Nat) (l:List Nat),l.Nodup→(∀ x∈l,x<n)→l.length≤n:=by
 intro n
 induction n with
 | zero =>
  intro l _ h
  cases l with
  | nil=>simp
  | cons a l=>exact absurd (h a zO) (yC _)
 | succ n ih =>
  intro l hn h
  have h1:=ih (l.erase n) (hn.erase n) fun x hx=>by
   have hm:=List.mem_of_mem_erase hx
   have:=h x hm
   have hne:x≠n:=fun e=>by
    subst e
    exact (List.Nodup.not_mem_erase hn) hx
   omega
  by_cases hm:n∈l
  ·rw [List.length_erase_of_mem hm] at h1
   have:=List.length_pos_of_mem hm
   omega
  ·rw [List.erase_of_not_mem hm] at h1;omega
theorem Simple.short {l:List α} (h:Simple f l) {n:Nat} (hb:∀ x∈l,(f x).b<n):l.length≤n:=by
 have:=nodup_len n _ h.once fun x hx=>by
  obtain ⟨y,hy,rfl⟩:=List.mem_map.1 hx
  exact hb y hy
 simpa using this
theorem Simple.two {l:List α} (h:Simple f l) (hx:∀ x∈l,(f x).a≠(f x).b):2≤l.length:=by
 obtain ⟨u,hu⟩:=h.closed
 match l,h.ne,hu,hx with
 | [x],_,hu,hx=>exact absurd (hu.1.trans hu.2.symm) (hx x zO)
 | x :: y :: l,_,_,_=>simp
end Go.Wk
end
section
namespace Go.Lv
open Go.Fw Go.Wk
def far:Int:=1099511627776
theorem zCs:(0:Int)<far:=by decide
def big:Int:=20000
def clo (n:Nat) (cs:List Bd):Option Mat:=closed far n (cs.foldl addc (base far n))
abbrev Oks (n:Nat) (cs:List Bd):Prop:=∀ c∈cs,c.Ok big big n
theorem zBr (n:Nat):Good far big big n (base far n):=Good.base (by decide) (by decide) (by decide)
theorem pow_far {n:Nat} (hn:n≤8):(2:Int) ^ (n+1) * big<far:=by
 have h1:(2:Int) ^ (n+1)≤2 ^ 9:=pow_le (by decide) _ (by omega)
 have h2:(2:Int) ^ 9=512:=by decide
 have h3:far=1099511627776:=rfl
 have h4:big=20000:=rfl
 rw [h4];omega
theorem clo_some {n:Nat} (hn:n≤8) {cs:List Bd} (hcs:Oks n cs) {V:Mat} (h:clo n cs=some V):Closed far n (cs.foldl addc (base far n)) V:=
 let g:=(zBr n).fold hcs
 closed_some g.sq g.diag (by decide) (pow_far hn) g.small h
theorem clo_mem {n:Nat} (hn:n≤8) {cs:List Bd} (hcs:Oks n cs) {V:Mat} (h:clo n cs=some V) {c:Bd} (hc:c∈cs):ent V c.a c.b≤c.m∧ent V c.a c.b<far:=by
 have h1:=(clo_some hn hcs h).le c.a c.b
 have h2:=fold_mem (zBr n).sq (fun c hc=>⟨(hcs c hc).a,(hcs c hc).b⟩) c hc
 have h3:=(hcs c hc).high
 have h4:big<far:=by decide
 omega
def Real (cs:List Bd) (n:Nat) (W:Mat):Prop:=∀ i j,i<n→j<n→ent W i j<far → ∃ l:List Bd,(∀ x∈l,x∈cs)∧Pth id i l j∧tot id l=ent W i j
theorem real_base (cs:List Bd) (n:Nat):Real cs n (base far n):=fun i j hi hj h=>by
 rw [ent_base hi hj] at h ⊢
 by_cases e:i=j
 ·rw [if_pos e];exact ⟨[],fun x hx=>(by cases hx),e,rfl⟩
 ·rw [if_neg e] at h;omega
theorem zEj {cs:List Bd} {n:Nat}:∀ {ds:List Bd} {W:Mat},(∀ c∈ds,c∈cs)→(∀ c∈ds,c.a<n∧c.b<n)→Sq n W→Real cs n W→Real cs n (ds.foldl addc W)
 | [],W,_,_,_,h=>h
 | d :: ds,W,hin,hb,hs,h=>by
  have h1:=hb d zO
  show Real cs n (ds.foldl addc (addc W d))
  refine zEj (ds:=ds) (W:=addc W d) (fun c hc=>hin c (zQ _ hc)) (fun c hc=>hb c (zQ _ hc)) (hs.put _ _ _) fun i j hi hj hlt => ?_
  rw [ent_addc hs h1.1 h1.2] at hlt ⊢
  by_cases g:i=d.a∧j=d.b
  ·rw [if_pos g] at hlt ⊢
   rcases Int.le_total (ent W d.a d.b) d.m with q | q
   ·rw [Int.min_eq_left q] at hlt ⊢
    rw [← g.1,← g.2] at hlt ⊢
    exact h i j hi hj hlt
   ·rw [Int.min_eq_right q]
    exact ⟨[d],fun x hx=>by rw [qL] at hx;subst hx;exact hin _ zO,⟨g.1.symm,g.2.symm⟩,by simp [tot]⟩
  ·rw [if_neg g] at hlt ⊢
   exact h i j hi hj hlt
theorem real_upd {cs:List Bd} {n:Nat} {W:Mat} (h:Real cs n W) (hs:Sq n W) {a b c:Nat} (ha:a<n) (hb:b<n) (hc:c<n):Real cs n (upd far c a W b):=fun i j hi hj hlt=>by
 rw [ent_upd hs ha hb] at hlt ⊢
 by_cases g:(i=a∧j=b)∧ent W a c<far∧ent W c b<far
 ·rw [if_pos g] at hlt ⊢
  obtain ⟨⟨rfl,rfl⟩,g1,g2⟩:=g
  rcases Int.le_total (ent W i j) (ent W i c+ent W c j) with q | q
  ·rw [Int.min_eq_left q] at hlt ⊢;exact h i j hi hj hlt
  ·rw [Int.min_eq_right q]
   obtain ⟨l1,p1,p2,p3⟩:=h i c hi hc g1
   obtain ⟨l2,q1,q2,q3⟩:=h c j hc hj g2
   refine ⟨l1 ++ l2,fun x hx => ?_,zBn.2 ⟨c,p2,q2⟩,by rw [tot_app,p3,q3]⟩
   rcases List.mem_append.1 hx with hx | hx
   ·exact p1 x hx
   ·exact q1 x hx
 ·rw [if_neg g] at hlt ⊢
  exact h i j hi hj hlt
theorem real_upto {cs:List Bd} {n:Nat} {W:Mat} (h:Real cs n W) (hs:Sq n W) {k:Nat} (hk:k≤n):Real cs n (upto far n k W):=
 (fold_ind (fun _ w=>Sq n w∧Real cs n w) _ _ k ⟨hs,h⟩ fun c hc w hw=>fold_ind (fun _ w=>Sq n w∧Real cs n w) _ _ n hw fun a ha w hw =>
  fold_ind (fun _ w=>Sq n w∧Real cs n w) _ _ n hw fun b hb w hw=>⟨hw.1.upd _ _ _ _,real_upd hw.2 hw.1 ha hb (by omega)⟩).2
theorem clo_none {n:Nat} {cs:List Bd} (hcs:Oks n cs) (h:clo n cs=none):∃ m:List Bd,Simple id m∧(∀ x∈m,x∈cs)∧tot id m<0:=by
 have hg:=(zBr n).fold hcs
 have hr:Real cs n (upto far n n (cs.foldl addc (base far n))):=real_upto (zEj (fun c hc=>hc) (fun c hc=>⟨(hcs c hc).a,(hcs c hc).b⟩) (zBr n).sq (real_base cs n)) hg.sq (zN n)
 unfold clo closed at h
 split at h
 ·cases h
 ·rename_i hn
  rw [qX] at hn
  obtain ⟨i,hi⟩:=Classical.not_forall.1 hn
  obtain ⟨hi1,hi2⟩:=Classical.not_imp.1 hi
  rw [decide_eq_true_iff] at hi2
  have hi':=List.mem_range.1 hi1
  obtain ⟨l,p1,p2,p3⟩:=hr i i hi' hi' (by have:=zCs;omega)
  have hne:l≠[]:=fun e=>by
   subst e
   simp [tot] at p3;omega
  obtain ⟨m,q1,_,q3,q4⟩:=simple_neg hne ⟨i,p2⟩ (by omega)
  exact ⟨m,q1,fun x hx=>p1 x (q3 x hx),q4⟩
structure Clos (n:Nat) (cs:List Bd) (V:Mat):Prop where
 oks:Oks n cs
 diag:∀ i,i<n→ent V i i=0
 tri:∀ i k j,i<n→k<n→j<n→ent V i k<far→ent V k j<far→ent V i j≤ent V i k+ent V k j∧ent V i j<far
 mem:∀ c∈cs,ent V c.a c.b≤c.m∧ent V c.a c.b<far
 real:Real cs n V
theorem clo_real {n:Nat} {cs:List Bd} (hcs:Oks n cs) {V:Mat} (h:clo n cs=some V):Real cs n V:=by
 have hV:V=upto far n n (cs.foldl addc (base far n)):=by
  unfold clo closed at h
  split at h
  ·cases h;rfl
  ·cases h
 rw [hV]
 exact real_upto (zEj (fun c hc=>hc) (fun c hc=>⟨(hcs c hc).a,(hcs c hc).b⟩) (zBr n).sq (real_base cs n)) ((zBr n).fold hcs).sq (zN n)
theorem clo_clos {n:Nat} (hn:n≤8) {cs:List Bd} (hcs:Oks n cs) {V:Mat} (h:clo n cs=some V):Clos n cs V:=
 let hc:=clo_some hn hcs h
 ⟨hcs,hc.diag,hc.tri,fun c hc'=>clo_mem hn hcs h hc',clo_real hcs h⟩
variable {n:Nat} {cs:List Bd} {V:Mat}
theorem Clos.walk (h:Clos n cs V):∀ (l:List Bd) (i j:Nat),(∀ x∈l,x∈cs)→i<n→Pth id i l j→j<n∧ent V i j<far∧ent V i j≤tot id l
 | [],i,j,_,hi,hp=>by
  cases hp
  rw [h.diag i hi]
  exact ⟨hi,zCs,yF _⟩
 | x :: l,i,j,hin,hi,hp=>by
  have hx:=hin x zO
  have ho:=h.oks x hx
  obtain ⟨h1,h2⟩:=h.mem x hx
  obtain ⟨e,hp⟩:=hp
  obtain ⟨g1,g2,g3⟩:=Clos.walk h l x.b j (fun y hy=>hin y (zQ _ hy)) ho.b hp
  have e':x.a=i:=e
  subst e'
  have t:=h.tri x.a x.b j hi ho.b g1 h2 g2
  refine ⟨g1,t.2, ?_⟩
  show _≤x.m+tot id l
  omega
theorem Clos.le {cs':List Bd} {V':Mat} (h:Clos n cs V) (h':Clos n cs' V') (hin:∀ c∈cs,c∈cs') {i j:Nat} (hi:i<n) (hj:j<n) (hf:ent V i j<far):ent V' i j≤ent V i j∧ent V' i j<far:=by
 obtain ⟨l,p1,p2,p3⟩:=h.real i j hi hj hf
 have:=h'.walk l i j (fun x hx=>hin x (p1 x hx)) hi p2
 exact ⟨by omega,this.2.1⟩
abbrev Holds (cs:List Bd) (x:Nat→Int):Prop:=∀ c∈cs,c.holds x
theorem clo_unheld (hcs:Oks n cs) (h:clo n cs=none) (x:Nat→Int):¬ Holds cs x:=fun hx =>
 closed_none ((zBr n).fold hcs).sq zCs h x ((obeys_fold (by decide) x (zBr n) hcs).2 ⟨obeys_base _ _ _,hx⟩)
theorem walk_held {x:Nat→Int} (hx:Holds cs x):∀ {l:List Bd} {i j:Nat},(∀ c∈l,c∈cs)→Pth id i l j→x j - x i≤tot id l
 | [],i,j,_,hp=>by cases hp;simp [tot]
 | c :: l,i,j,hin,hp=>by
  obtain ⟨e,hp⟩:=hp
  have e':c.a=i:=e
  subst e'
  have h1:=walk_held hx (fun d hd=>hin d (zQ _ hd)) hp
  have h2:x c.b - x c.a≤c.m:=hx c (hin c zO)
  have h3:x j - x c.b≤tot id l:=h1
  show x j - x c.a≤c.m+tot id l
  omega
theorem Clos.most (h:Clos n cs V) {x:Nat→Int} (hx:Holds cs x) {i j:Nat} (hi:i<n) (hj:j<n) (hf:ent V i j<far):x j - x i≤ent V i j:=by
 obtain ⟨l,p1,p2,p3⟩:=h.real i j hi hj hf
 rw [← p3];exact walk_held hx p1 p2
def Both (cs:List Bd):Prop:=∀ c∈cs,∃ d∈cs,d.a=c.b∧d.b=c.a
def bas (V:Mat) (j:Nat):Nat:=((List.range j).find? fun b=>decide (ent V b j<far)).getD j
theorem bas_le (V:Mat) (j:Nat):bas V j≤j:=by
 unfold bas
 cases h:(List.range j).find? fun b=>decide (ent V b j<far) with
 | none=>exact zN _
 | some b=>have:=List.mem_range.1 (List.mem_of_find?_eq_some h);simp;omega
theorem bas_far {V:Mat} {j:Nat} (hd:ent V j j=0):ent V (bas V j) j<far:=by
 unfold bas
 cases h:(List.range j).find? fun b=>decide (ent V b j<far) with
 | none=>show ent V j j<far;rw [hd];exact zCs
 | some b =>
  have:=List.find?_some h
  show ent V b j<far
  exact of_decide_eq_true this
theorem bas_least {V:Mat} {j b:Nat} (hb:ent V b j<far):bas V j≤b:=by
 unfold bas
 cases h:(List.range j).find? fun b=>decide (ent V b j<far) with
 | none =>
  show j≤b
  refine Nat.le_of_not_lt fun hlt => ?_
  have:=List.find?_eq_none.1 h b (List.mem_range.2 hlt)
  exact this (decide_eq_true hb)
 | some d =>
  show d≤b
  refine Nat.le_of_not_lt fun hlt => ?_
  obtain ⟨_,us,bs,e,hno⟩:=List.find?_eq_some_iff_append.1 h
  have hbj:b<j:=by
   have:=List.mem_range.1 (List.mem_of_find?_eq_some h);omega
  have hmem:b∈List.range j:=List.mem_range.2 hbj
  rw [e] at hmem
  rcases List.mem_append.1 hmem with hm | hm
  ·have:=hno b hm
   rw [decide_eq_true hb] at this;cases this
  ·have hs:(us ++ d :: bs).Pairwise (· < ·):=by rw [← e];exact List.pairwise_lt_range
   have:=(List.pairwise_append.1 hs).2.1
   rcases List.mem_cons.1 hm with rfl | hm
   ·omega
   ·have:=(List.pairwise_cons.1 this).1 b hm;omega
theorem Clos.sym (h:Clos n cs V) (hb:Both cs) {i j:Nat} (hi:i<n) (hj:j<n) (hf:ent V i j<far):ent V j i<far:=by
 obtain ⟨l,p1,p2,_⟩:=h.real i j hi hj hf
 have back:∀ (l:List Bd) (u v:Nat),(∀ x∈l,x∈cs)→Pth id u l v → ∃ m:List Bd,(∀ x∈m,x∈cs)∧Pth id v m u:=by
  intro l
  induction l with
  | nil=>intro u v _ hp;cases hp;exact ⟨[],fun x hx=>(by cases hx),rfl⟩
  | cons x l ih =>
   intro u v hin hp
   obtain ⟨e,hp⟩:=hp
   obtain ⟨m,m1,m2⟩:=ih _ v (fun y hy=>hin y (zQ _ hy)) hp
   obtain ⟨d,d1,d2,d3⟩:=hb x (hin x zO)
   refine ⟨m ++ [d],fun y hy => ?_,zBn.2 ⟨x.b,m2,d2, ?_⟩⟩
   ·rcases List.mem_append.1 hy with hy | hy
    ·exact m1 y hy
    ·rw [qL] at hy;subst hy;exact d1
   ·show d.b=u
    rw [d3];exact e
 obtain ⟨m,m1,m2⟩:=back l i j p1 p2
 exact (h.walk m j i m1 hj m2).2.1
theorem Clos.bas_eq (h:Clos n cs V) (hb:Both cs) {i j:Nat} (hi:i<n) (hj:j<n) (hf:ent V i j<far):bas V i=bas V j:=by
 have hf':=h.sym hb hi hj hf
 have b1:=bas_le V i
 have b2:=bas_le V j
 have f1:=bas_far (h.diag i hi)
 have f2:=bas_far (h.diag j hj)
 have t1:=(h.tri (bas V i) i j (by omega) hi hj f1 hf).2
 have t2:=(h.tri (bas V j) j i (by omega) hj hi f2 hf').2
 have l1:=bas_least t1
 have l2:=bas_least t2
 omega
theorem Clos.high (h:Clos n cs V) (hb:Both cs):Holds cs fun j=>ent V (bas V j) j:=fun c hc=>by
 have ho:=h.oks c hc
 obtain ⟨m1,m2⟩:=h.mem c hc
 have e:=h.bas_eq hb ho.a ho.b m2
 have hle:=bas_le V c.a
 have hf:=bas_far (h.diag c.a ho.a)
 have t:=(h.tri (bas V c.a) c.a c.b (by have:=ho.a;omega) ho.a ho.b hf m2).1
 show ent V (bas V c.b) c.b - ent V (bas V c.a) c.a≤c.m
 rw [← e];omega
theorem Clos.low (h:Clos n cs V) (hb:Both cs):Holds cs fun j => -ent V j (bas V j):=fun c hc=>by
 have ho:=h.oks c hc
 obtain ⟨m1,m2⟩:=h.mem c hc
 have e:=h.bas_eq hb ho.a ho.b m2
 have hle:=bas_le V c.b
 have hlt:bas V c.b<n:=by have:=ho.b;omega
 have hf:=h.sym hb hlt ho.b (bas_far (h.diag c.b ho.b))
 have t:=(h.tri c.a c.b (bas V c.b) ho.a ho.b hlt m2 hf).1
 show -ent V c.b (bas V c.b) - -ent V c.a (bas V c.a)≤c.m
 rw [e];omega
theorem clo_held (hn:n≤8) (hcs:Oks n cs) (hb:Both cs):(clo n cs).isSome=true ↔ ∃ x,Holds cs x:=by
 cases h:clo n cs with
 | none=>exact ⟨fun e=>(by cases e),fun ⟨x,hx⟩=>(clo_unheld hcs h x hx).elim⟩
 | some V=>exact ⟨fun _=>⟨_,(clo_clos hn hcs h).high hb⟩,fun _=>rfl⟩
theorem short_walk {α:Type} (f:α→Bd):∀ (n:Nat) (l:List α) (i j:Nat),l.length=n→Pth f i l j → ∃ m:List α,(∀ x∈m,x∈l)∧Pth f i m j∧(m.map fun x=>(f x).b).Nodup:=by
 intro n
 induction n using Nat.strongRecOn with
 | ind n ih =>
  intro l i j hn hp
  by_cases hs:(l.map fun x=>(f x).b).Nodup
  ·exact ⟨l,fun x h=>h,hp,hs⟩
  obtain ⟨A,x,B,y,C,rfl,e⟩:=dup_split _ hs
  have hl:(A ++ x :: (B ++ y :: C))=(A ++ [x]) ++ ((B ++ [y]) ++ C):=by simp
  rw [hl] at hp
  obtain ⟨w1,p1,p2⟩:=zBn.1 hp
  obtain ⟨w2,p3,p4⟩:=zBn.1 p2
  have e1:=pth_last p1
  have e2:=pth_last p3
  have ew:w2=w1:=by rw [← e1,← e2];exact e.symm
  subst ew
  obtain ⟨m,m1,m2,m3⟩:=ih ((A ++ [x]) ++ C).length (by rw [← hn];simp;omega) ((A ++ [x]) ++ C) i j rfl (zBn.2 ⟨w2,p1,p4⟩)
  refine ⟨m,fun z hz => ?_,m2,m3⟩
  have:=m1 z hz
  simp only [List.mem_append,yL,yE,or_false] at this ⊢
  rcases this with (hz | hz) | hz
  ·exact .inl hz
  ·exact .inr (.inl hz)
  ·exact .inr (.inr (.inr (.inr hz)))
theorem tot_le {α:Type} {f:α→Bd} {M:Int}:∀ {l:List α},(∀ x∈l,(f x).m≤M)→tot f l≤M * l.length
 | [],_=>by simp [tot]
 | x :: l,h=>by
  have h1:=h x zO
  have h2:=tot_le fun y hy=>h y (zQ _ hy)
  show (f x).m+tot f l≤M * (l.length+1:Nat)
  rw [Int.natCast_add,Int.mul_add];omega
theorem Clos.top {n:Nat} {cs:List Bd} {V:Mat} (h:Clos n cs V) {M:Int} (hM:0≤M) (hm:∀ c∈cs,c.m≤M) {i j:Nat} (hi:i<n) (hj:j<n) (hf:ent V i j<far):ent V i j≤M * n:=by
 obtain ⟨l,p1,p2,_⟩:=h.real i j hi hj hf
 obtain ⟨m,m1,m2,m3⟩:=short_walk id l.length l i j rfl p2
 have hlen:m.length≤n:=by
  have:=nodup_len n _ m3 fun x hx=>by
   obtain ⟨y,hy,rfl⟩:=List.mem_map.1 hx
   exact (h.oks y (p1 y (m1 y hy))).b
  simpa using this
 have h1:=(h.walk m i j (fun x hx=>p1 x (m1 x hx)) hi m2).2.2
 have h2:tot id m≤M * m.length:=tot_le fun x hx=>hm x (p1 x (m1 x hx))
 have h3:M * m.length≤M * n:=Int.mul_le_mul_of_nonneg_left (by omega) hM
 omega
theorem Clos.neg {n:Nat} {cs:List Bd} {V:Mat} (h:Clos n cs V) {i j:Nat} (hi:i<n) (hj:j<n) (hf:ent V i j<far) (hf2:ent V j i<far):-ent V j i≤ent V i j:=by
 have:=(h.tri i j i hi hj hi hf hf2).1
 rw [h.diag i hi] at this
 omega
structure Sight where
 frm:Int
 to:Int
 rise:Int
 off:Int
 deriving DecidableEq
structure Survey where
 stations:Int
 sights:List Sight
 deriving DecidableEq
def inB (x lo hi:Int):Bool:=decide (x ≥ lo) && decide (x≤hi)
theorem inB_iff {x lo hi:Int}:inB x lo hi=true↔lo≤x∧x≤hi:=by
 unfold inB;rw [zR,decide_eq_true_iff,decide_eq_true_iff]
structure SightOk (n:Int) (x:Sight):Prop where
 frm:0≤x.frm∧x.frm<n
 to:0≤x.to∧x.to<n
 ne:x.frm≠x.to
 rise:-1000≤x.rise∧x.rise≤1000
 off:0≤x.off∧x.off≤50
structure Sw (s:Survey):Prop where
 st:2≤s.stations∧s.stations≤8
 sights:∀ x∈s.sights,SightOk s.stations x
structure Sv (s:Survey):Prop extends Sw s where
 many:s.sights.length≤14
def sightD (by' off:Int) (x:Sight):List Bd:=[⟨x.frm.toNat,x.to.toNat,x.rise * by'+off⟩,⟨x.to.toNat,x.frm.toNat,off - x.rise * by'⟩]
def sightB (x:Sight):List Bd:=[⟨x.frm.toNat,x.to.toNat,x.rise+x.off⟩,⟨x.to.toNat,x.frm.toNat,x.off - x.rise⟩]
def surveyB (s:Survey):List Bd:=s.sights.flatMap sightB
theorem zBo {s:Survey} {c:Bd}:c∈surveyB s ↔ ∃ x∈s.sights,c=⟨x.frm.toNat,x.to.toNat,x.rise+x.off⟩∨c=⟨x.to.toNat,x.frm.toNat,x.off - x.rise⟩:=by
 unfold surveyB sightB
 simp only [List.mem_flatMap,yL,yE,or_false]
abbrev num (s:Survey):Nat:=s.stations.toNat
theorem Sw.num8 {s:Survey} (h:Sw s):num s≤8:=by have:=h.st;show s.stations.toNat≤8;omega
theorem sight_bd {n:Int} {x:Sight} (h:SightOk n x):∀ c∈sightB x,c.a<n.toNat∧c.b<n.toNat∧c.a≠c.b ∧ -1050≤c.m∧c.m≤1050:=fun c hc=>by
 have h1:=h.frm;have h2:=h.to;have h3:=h.ne;have h4:=h.rise;have h5:=h.off
 unfold sightB at hc
 simp only [yL,yE,or_false] at hc
 rcases hc with rfl | rfl
 ·exact ⟨by show x.frm.toNat<_;omega,by show x.to.toNat<_;omega,by show x.frm.toNat≠x.to.toNat;omega,by show -1050≤x.rise+x.off;omega,by show x.rise+x.off≤1050;omega⟩
 ·exact ⟨by show x.to.toNat<_;omega,by show x.frm.toNat<_;omega,by show x.to.toNat≠x.frm.toNat;omega,by show -1050≤x.off - x.rise;omega,by show x.off - x.rise≤1050;omega⟩
theorem Sw.bd {s:Survey} (h:Sw s):∀ c∈surveyB s,c.a<num s∧c.b<num s∧c.a≠c.b ∧ -1050≤c.m∧c.m≤1050:=fun c hc=>by
 obtain ⟨x,hx,hc⟩:=List.mem_flatMap.1 hc
 exact sight_bd (h.sights x hx) c hc
theorem Sw.oks {s:Survey} (h:Sw s):Oks (Lv.num s) (surveyB s):=fun c hc=>by
 obtain ⟨h1,h2,h3,h4,h5⟩:=h.bd c hc
 exact ⟨h1,h2,h3,by show -20000≤c.m;omega,by show c.m≤20000;omega⟩
theorem survey_both (s:Survey):Both (surveyB s):=fun c hc=>by
 obtain ⟨x,hx,rfl | rfl⟩:=zBo.1 hc
 ·exact ⟨⟨x.to.toNat,x.frm.toNat,x.off - x.rise⟩,zBo.2 ⟨x,hx,.inr rfl⟩,rfl,rfl⟩
 ·exact ⟨⟨x.frm.toNat,x.to.toNat,x.rise+x.off⟩,zBo.2 ⟨x,hx,.inl rfl⟩,rfl,rfl⟩
def knownV (s:Survey):Option Mat:=clo (num s) (surveyB s)
def possS (s:Survey):Bool:=(knownV s).isSome
theorem zCu {s:Survey} (h:Sw s) {V:Mat} (hV:knownV s=some V):Clos (num s) (surveyB s) V:=clo_clos h.num8 h.oks hV
theorem known_sym {s:Survey} (h:Sw s) {V:Mat} (hV:knownV s=some V) {i j:Nat} (hi:i<num s) (hj:j<num s) (hf:ent V i j<far):ent V j i<far:=(zCu h hV).sym (survey_both s) hi hj hf
theorem known_bd {s:Survey} (h:Sw s) {V:Mat} (hV:knownV s=some V) {i j:Nat} (hi:i<num s) (hj:j<num s) (hf:ent V i j<far):-8400≤ent V i j∧ent V i j≤8400:=by
 have hn:=h.num8
 have hc:=zCu h hV
 have h1:=hc.top (M:=1050) (by decide) (fun c hc=>(h.bd c hc).2.2.2.2) hi hj hf
 have hf2:=known_sym h hV hi hj hf
 have h2:=hc.top (M:=1050) (by decide) (fun c hc=>(h.bd c hc).2.2.2.2) hj hi hf2
 have h3:=hc.neg hi hj hf hf2
 have:(1050:Int) * (num s:Nat)≤8400:=by omega
 omega
def Fit (s:Survey) (x:Nat→Int):Prop:=∀ y∈s.sights,y.rise - y.off≤x y.to.toNat - x y.frm.toNat∧x y.to.toNat - x y.frm.toNat≤y.rise+y.off
theorem fit_holds (s:Survey) (x:Nat→Int):Fit s x↔Holds (surveyB s) x:=by
 constructor
 ·intro h c hc
  obtain ⟨y,hy,rfl | rfl⟩:=zBo.1 hc
  ·exact (h y hy).2
  ·have:=(h y hy).1
   show x y.frm.toNat - x y.to.toNat≤y.off - y.rise
   omega
 ·intro h y hy
  have h1:x y.to.toNat - x y.frm.toNat≤y.rise+y.off:=h _ (zBo.2 ⟨y,hy,.inl rfl⟩)
  have h2:x y.frm.toNat - x y.to.toNat≤y.off - y.rise:=h _ (zBo.2 ⟨y,hy,.inr rfl⟩)
  omega
theorem poss_fit {s:Survey} (h:Sw s):possS s=true ↔ ∃ x,Fit s x:=by
 unfold possS knownV
 rw [clo_held h.num8 h.oks (survey_both s)]
 exact ⟨fun ⟨x,hx⟩=>⟨x,(fit_holds s x).2 hx⟩,fun ⟨x,hx⟩=>⟨x,(fit_holds s x).1 hx⟩⟩
end Go.Lv
end
