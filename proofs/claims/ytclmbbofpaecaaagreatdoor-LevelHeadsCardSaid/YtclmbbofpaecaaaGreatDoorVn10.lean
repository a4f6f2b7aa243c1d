/- Part 10 of the proof. -/
import Derived.Test.YtclmbbofpaecaaaGreatDoorVn9
set_option linter.all false
set_option linter.unusedVariables false
set_option linter.unusedSimpArgs false
set_option linter.unusedSectionVars false
open Bool renaming false_eq_true → zS, and_eq_true → zT
open List renaming getElem?_eq_getElem → zF, getElem?_eq_none → zN, headD_cons → yF, tail_cons → yH, headD_nil → yS
open Nat renaming lt_or_ge → zU, zero_le → qG, lt_of_lt_of_le → qL
open Option renaming getD_some → qD
section
namespace Go.Av
open Go
inductive Frz (h:List (Option Blk)):AV→AV→Prop where
 | same (v:AV):Frz h v v
 | unk (l:List AV) (n:Nat) (t:Tail):Frz h (.slice l n t) (.slice l n .unk)
 | nil:Frz h .nilS (.slice [] 0 .unk)
 | row (i o n cap z:Nat) (l:List AV) (hi:h[i]? = some (some (.cells l))) (hl:o+n * z≤l.length) (hn:n≤cap):Frz h (.sref i o n cap) (.slice ((l.drop o).take (n * z)) n .unk)
 | slice (l l':List AV) (n:Nat) (t:Tail) (hl:l.length=l'.length) (h':∀ (j:Nat) (x y:AV),l[j]? = some x→l'[j]? = some y→Frz h x y):Frz h (.slice l n t) (.slice l' n .unk)
 | agg (l l':List AV) (hl:l.length=l'.length) (h':∀ (j:Nat) (x y:AV),l[j]? = some x→l'[j]? = some y→Frz h x y):Frz h (.agg l) (.agg l')
 | tuple (l l':List AV) (hl:l.length=l'.length) (h':∀ (j:Nat) (x y:AV),l[j]? = some x→l'[j]? = some y→Frz h x y):Frz h (.tuple l) (.tuple l')
 | ptr (i:Nat) (l:List AV) (hi:h[i]? = some (some (.cells l))):Frz h (.ref i 0) (.eptr l 0)
 | func (fn:Fn) (l l':List AV) (hl:l.length=l'.length) (h':∀ (j:Nat) (x y:AV),l[j]? = some x→l'[j]? = some y→Frz h x y):Frz h (.func fn [] l) (.func fn [] l')
open Classical in
noncomputable def Cx.frz (c:Cx) (S:St) (w:World):Cx:=
 {c with K:=fun b o=>if ∃ i l,S.heap[i]? = some (some (.cells l))∧c.μ i=some b∧o<l.length then w.cell? ⟨b,o,none⟩ else c.K b o }
theorem zDz {c:Cx} {S:St} {w:World} (h:StRel c S w) {b o i:Nat} {l:List AV} (hi:S.heap[i]? = some (some (.cells l))) (hb:c.μ i=some b) (ho:o<l.length) :
  c.K b o=none∧c.X b o=none ∧ ∃ v,w.cell? ⟨b,o,none⟩=some v∧VRel c l[o] v:=by
 obtain ⟨n,h1,h2⟩:=h.blk i _ hi
 rw [hb] at h1;cases h1
 obtain ⟨a1,a2,_,a4⟩:=h2 o l[o] (zF ho)
 exact ⟨a1,a2,a4⟩
theorem frz_le {c:Cx} {S:St} {w:World} (h:StRel c S w):c.le (c.frz S w):=
 ⟨fun b o v e=>by
  simp only [Cx.frz]
  split
  ·rename_i hx
   obtain ⟨i,l,h1,h2,h3⟩:=hx
   rw [(zDz h h1 h2 h3).1] at e;cases e
  ·exact e,fun _ _ e=>e,fun _ _ e=>e,rfl,rfl,rfl,rfl,fun _ _ e=>.inl e,fun _ _ e=>.inl e⟩
theorem frz_st {c:Cx} {S:St} {w:World} (h:StRel c S w):StRel (c.frz S w) { heap:=S.heap.map fun _=>none,nt:=S.nt,toks:=[] } w where
 sz:=h.sz
 tab i hi:=(frz_le h).K _ _ _ (h.tab i hi)
 tsh:=h.tsh
 fr:=h.fr
 K b o v e:=by
  simp only [Cx.frz] at e
  split at e
  ·exact e
  ·exact h.K b o v e
 X b o v e:=by
  obtain ⟨h1,h2,h3⟩:=h.X b o v e
  refine ⟨h1,h2, ?_⟩
  simp only [Cx.frz]
  split
  ·rename_i hx
   obtain ⟨i,l,g1,g2,g3⟩:=hx
   have e':c.X b o=some v:=e
   rw [(zDz h g1 g2 g3).2.1] at e';cases e'
  ·exact h3
 XO:=h.XO
 F:=h.F
 dom i n e:=by simpa using h.dom i n e
 tdom:=h.tdom
 blk i B x:=by simp at x
 inj i j Bi Bj n x:=by simp at x
 tok k hk:=by cases hk
 tinj k k' b lo hi lo' hi' hk:=by cases hk
 tblk k i b lo hi B hk:=by cases hk
 tfr k b lo hi hk:=by cases hk
theorem Frz.ok {c:Cx} {S:St} {w:World} (h:StRel c S w) {v v':AV} (f:Frz S.heap v v'):∀ {x:Value},VRel c v x→VRel (c.frz S w) v' x:=by
 induction f with
 | same v=>intro x hx;exact hx.mono (frz_le h)
 | unk l n t=>intro x hx;exact Sub.unk l n t _ x (hx.mono (frz_le h))
 | nil=>intro x hx;exact Sub.nil _ x (hx.mono (frz_le h))
 | row i o n cap z l hi hl hn =>
  intro x hx
  cases hx with
  | sref _ _ _ _ m cap' hm hc =>
   have hb:∀ j (hj:j<l.length),∃ v,w.cell? ⟨m,j,none⟩=some v∧VRel c l[j] v:=by
    intro j hj
    obtain ⟨_,_,v,h1,h2⟩:=zDz h hi hm hj
    exact ⟨v,h1,h2⟩
   refine .slice _ n .unk m o cap' (fun j=>(w.cell? ⟨m,o+j,none⟩).getD Go.undef) (by omega) (fun j hj => ?_) (fun j y hy => ?_) (fun e=>by cases e) (fun k e=>by cases e)
   ·have hj':o+j<l.length:=by
     simp at hj;omega
    obtain ⟨v,h1,_⟩:=hb _ hj'
    simp only [Cx.frz]
    rw [if_pos ⟨i,l,hi,hm,hj'⟩,h1];rfl
   ·rw [List.getElem?_take] at hy
    split at hy
    ·rename_i hjn
     rw [List.getElem?_drop] at hy
     have hj':o+j<l.length:=by omega
     obtain ⟨v,h1,h2⟩:=hb _ hj'
     rw [h1,qD]
     rw [zF hj'] at hy
     cases hy
     exact h2.mono (frz_le h)
    ·cases hy
 | slice l l' n t hl h' ih =>
  intro x hx
  cases hx with
  | slice _ _ _ b off cap vs hc hk hr he ht =>
   refine .slice l' n .unk b off cap vs hc (fun j hj=>(frz_le h).K _ _ _ (hk j (by omega))) (fun j y hy => ?_) (fun e=>by cases e) (fun k e=>by cases e)
   have hj:j<l.length:=by
    rcases zU j l'.length with h1 | h1
    ·omega
    ·rw [zN h1] at hy;cases hy
   exact ih j l[j] y (zF hj) hy (hr j _ (zF hj))
  | sliceNil _ ht =>
   have:l'=[]:=by cases l' <;> simp_all
   subst this
   exact .sliceNil .unk (fun k e=>by cases e)
 | agg l l' hl h' ih =>
  intro x hx
  cases hx with
  | agg _ vs hl2 h2 =>
   refine .agg l' vs (by omega) (fun j y u hy hu => ?_)
   have hj:j<l.length:=by
    rcases zU j l'.length with h1 | h1
    ·omega
    ·rw [zN h1] at hy;cases hy
   exact ih j l[j] y (zF hj) hy (h2 j _ u (zF hj) hu)
 | tuple l l' hl h' ih =>
  intro x hx
  cases hx with
  | tuple _ vs hl2 h2 =>
   refine .tuple l' vs (by omega) (fun j y u hy hu => ?_)
   have hj:j<l.length:=by
    rcases zU j l'.length with h1 | h1
    ·omega
    ·rw [zN h1] at hy;cases hy
   exact ih j l[j] y (zF hj) hy (h2 j _ u (zF hj) hu)
 | ptr i l hi =>
  intro x hx
  cases hx with
  | ref _ _ m hm =>
   have hb:∀ j (hj:j<l.length),∃ v,w.cell? ⟨m,j,none⟩=some v∧VRel c l[j] v:=by
    intro j hj
    obtain ⟨_,_,v,h1,h2⟩:=zDz h hi hm hj
    exact ⟨v,h1,h2⟩
   refine VRel.eptr l 0 m 0 (fun j=>(w.cell? ⟨m,0+j,none⟩).getD Go.undef) (fun j hj => ?_) (fun j y hy => ?_)
   ·have hj':0+j<l.length:=by omega
    obtain ⟨v,h1,_⟩:=hb _ hj'
    simp only [Cx.frz]
    rw [if_pos ⟨i,l,hi,hm,hj'⟩,h1];rfl
   ·have hj:j<l.length:=by
     rcases zU j l.length with h1 | h1
     ·exact h1
     ·rw [zN h1] at hy;cases hy
    obtain ⟨v,h1,h2⟩:=hb _ hj
    rw [Nat.zero_add,h1,qD]
    rw [zF hj] at hy
    cases hy
    exact h2.mono (frz_le h)
 | func fn l l' hl h' ih =>
  intro x hx
  cases hx with
  | func _ _ _ f2 c2 hl1 hl2 h1 h2 =>
   refine .func fn [] l' f2 c2 hl1 (by omega) (fun j y u hy=>by simp at hy) (fun j y u hy hu => ?_)
   have hj:j<l.length:=by
    rcases zU j l'.length with h1 | h1
    ·omega
    ·rw [zN h1] at hy;cases hy
   exact ih j l[j] y (zF hj) hy (h2 j _ u (zF hj) hu)
theorem PC.of_frz {P:Program} {f:FuncId} {args:List AV} {v':AV} (h:AC P f args St.empty fun e S' => ∃ v,e=.ret v∧Frz S'.heap v v') (ha:bndL 0 0 args=true) (hv:v'.bnd 0 0=true):PC P f args (.pure v'):=by
 intro c S w vs hs hl
 obtain ⟨cE,hE,eK,eμ,eτ,esz,eX,eXO,eB,eT,eF⟩:=hide hs
 refine (h cE w vs hE (hl.free ha fun b o u e=>by rw [eK];exact e)).mono fun e w' ⟨ae,S',c',h1,h2,h3,h4⟩ => ?_
 obtain ⟨v,rfl,hf⟩:=h2
 cases e with
 | returned x =>
  obtain ⟨g1,g2⟩:=unhide hs (h1.trans (frz_le h4)) (frz_st h4) eK esz eX eXO eB eT hE eF.1 eF.2.1 eF.2.2
  exact ⟨x,rfl,_,g1,rfl,rfl,g2,VRel.free (hf.ok h4 h3) hv (fun _ _ _ e=>e)⟩
 | panicked ch=>exact h3.elim
 | outgrown=>exact h3.elim
inductive Lnt (h:List (Option Blk)):AV→AV→Prop where
 | same (v:AV) (hb:v.bnd 0 0=true):Lnt h v v
 | unk (l:List AV) (n:Nat) (t:Tail) (hb:bndL 0 0 l=true):Lnt h (.slice l n t) (.slice l n .unk)
 | nil:Lnt h .nilS (.slice [] 0 .unk)
 | row (i o n cap z:Nat) (l:List AV) (hi:h[i]? = some (some (.cells l))) (hb:bndL 0 0 l=true) (hl:o+n * z≤l.length) (hn:n≤cap):Lnt h (.sref i o n cap) (.slice ((l.drop o).take (n * z)) n .unk)
 | ptr (i o:Nat) (l:List AV) (hi:h[i]? = some (some (.cells l))) (hb:bndL 0 0 l=true):Lnt h (.ref i o) (.eptr l o)
 | ptrs (i o:Nat) (l l':List AV) (hi:h[i]? = some (some (.cells l))) (hl:l.length=l'.length) (h':∀ (j:Nat) (x y:AV),l[j]? = some x→l'[j]? = some y→Lnt h x y):Lnt h (.ref i o) (.eptr l' o)
 | slice (l l':List AV) (n:Nat) (t:Tail) (hl:l.length=l'.length) (h':∀ (j:Nat) (x y:AV),l[j]? = some x→l'[j]? = some y→Lnt h x y):Lnt h (.slice l n t) (.slice l' n .unk)
 | agg (l l':List AV) (hl:l.length=l'.length) (h':∀ (j:Nat) (x y:AV),l[j]? = some x→l'[j]? = some y→Lnt h x y):Lnt h (.agg l) (.agg l')
 | func (fn:Fn) (f c f' c':List AV) (hf:f.length=f'.length) (h1:∀ (j:Nat) (x y:AV),f[j]? = some x→f'[j]? = some y→Lnt h x y)
   (hc:c.length=c'.length) (h2:∀ (j:Nat) (x y:AV),c[j]? = some x→c'[j]? = some y→Lnt h x y):Lnt h (.func fn f c) (.func fn f' c')
theorem zCf {α β:Type} {l:List α} {l':List β} (hl:l.length=l'.length) {j:Nat} {y:β} (hy:l'[j]? = some y):∃ x,l[j]? = some x:=by
 rcases zU j l'.length with h1 | h1
 ·exact ⟨l[j]'(by omega),zF (by omega)⟩
 ·rw [zN h1] at hy;cases hy
mutual
def AV.flat:AV→Bool
 | .bool _ | .int _ _ | .str _ | .nilp | .nilS | .nilFunc | .nilIface | .nilMap=>true
 | .slice [] 0 .unk=>true
 | .tuple l=>flatL l
 | .agg l=>flatL l
 | _=>false
def flatL:List AV→Bool
 | []=>true
 | v :: l=>v.flat && flatL l
end
theorem flatL_get:∀ {l:List AV} {j:Nat} {v:AV},flatL l=true→l[j]? = some v→v.flat=true
 | [],j,v,_,h=>by simp at h
 | x :: l,0,v,h,e=>by
  simp at e;subst e
  simp only [flatL,zT] at h;exact h.1
 | x :: l,j+1,v,h,e=>by
  simp only [flatL,zT] at h
  exact flatL_get h.2 (by simpa using e)
theorem VRel.flat {c c':Cx} {v:AV} {x:Value} (h:VRel c v x) (hf:v.flat=true):VRel c' v x:=by
 induction h with
 | bool b=>exact .bool b
 | int k n=>exact .int k n
 | str s=>exact .str s
 | nilp=>exact .nilp
 | nilS=>exact .nilS
 | nilFunc=>exact .nilFunc
 | nilIface=>exact .nilIface
 | nilMap=>exact .nilMap
 | ref=>simp [AV.flat] at hf
 | eptr=>simp [AV.flat] at hf
 | sref=>simp [AV.flat] at hf
 | func=>simp [AV.flat] at hf
 | iface=>simp [AV.flat] at hf
 | map=>simp [AV.flat] at hf
 | sliceNil t ht =>
  exact .sliceNil t ht
 | slice l n t b off cap vs hc hk hr he ht ih =>
  have hs:l=[]∧n=0∧t=.unk:=by
   cases l with
   | nil=>cases n with
    | zero=>cases t with
     | unk=>exact ⟨rfl,rfl,rfl⟩
     | exact=>simp [AV.flat] at hf
     | tok k=>simp [AV.flat] at hf
    | succ n=>simp [AV.flat] at hf
   | cons a l=>simp [AV.flat] at hf
  obtain ⟨rfl,rfl,rfl⟩:=hs
  exact .slice [] 0 .unk b off cap vs hc (fun j hj=>by simp at hj) (fun j x hx=>by simp at hx) (fun e=>by cases e) (fun k e=>by cases e)
 | agg l vs hl hh ih =>
  rw [AV.flat] at hf
  exact .agg l vs hl fun j x u hx hu=>ih j x u hx hu (flatL_get hf hx)
 | tuple l vs hl hh ih =>
  rw [AV.flat] at hf
  exact .tuple l vs hl fun j x u hx hu=>ih j x u hx hu (flatL_get hf hx)
open Classical in
noncomputable def Cx.lend (c cE:Cx) (S:St) (w:World):Cx:=
 {cE with
  K:=fun b o=>if ∃ i l,S.heap[i]? = some (some (.cells l))∧c.μ i=some b∧o<l.length then w.cell? ⟨b,o,none⟩ else c.K b o
  X:=fun b o=>if ∃ i l,S.heap[i]? = some (some (.cells l))∧c.μ i=some b∧o<l.length then none else cE.X b o
  FZ:=⟨fun b o=>if ∃ i l,S.heap[i]? = some (some (.cells l))∧c.μ i=some b∧o<l.length then true else cE.FZ b o,cE.FZ.w0⟩ }
section
variable {c cE:Cx} {S:St} {w:World} (h:StRel c S w)
def Lent (c:Cx) (S:St) (b o:Nat):Prop:=∃ i l,S.heap[i]? = some (some (.cells l))∧c.μ i=some b∧o<l.length
theorem zCy {b o:Nat} (hx:Lent c S b o):(c.lend cE S w).K b o=w.cell? ⟨b,o,none⟩:=by
 exact if_pos hx
theorem zDr {b o:Nat} (hx:¬ Lent c S b o):(c.lend cE S w).K b o=c.K b o:=by
 exact if_neg hx
theorem lend_X_out {b o:Nat} (hx:¬ Lent c S b o):(c.lend cE S w).X b o=cE.X b o:=by
 exact if_neg hx
theorem lend_X_in {b o:Nat} (hx:Lent c S b o):(c.lend cE S w).X b o=none:=by
 exact if_pos hx
theorem lend_F_in {b o:Nat} (hx:Lent c S b o):(c.lend cE S w).FZ b o=true:=by
 exact if_pos hx
theorem lend_F_out {b o:Nat} (hx:¬ Lent c S b o):(c.lend cE S w).FZ b o=cE.FZ b o:=by
 exact if_neg hx
include h
theorem Lent.at {b o:Nat} (hx:Lent c S b o):c.K b o=none∧c.X b o=none∧w.frozen? ⟨b,o,none⟩=false ∧ ∃ v,w.cell? ⟨b,o,none⟩=some v:=by
 obtain ⟨i,l,h1,h2,h3⟩:=hx
 obtain ⟨n,g1,g2⟩:=h.blk i _ h1
 rw [h2] at g1;cases g1
 obtain ⟨a1,a2,a3,v,a4,_⟩:=g2 o l[o] (zF h3)
 exact ⟨a1,a2,a3,v,a4⟩
theorem lend_K {b o:Nat} {u:Value} (e:c.K b o=some u):(c.lend cE S w).K b o=some u:=by
 by_cases hx:Lent c S b o
 ·rw [(Lent.at h hx).1] at e;cases e
 ·rw [zDr hx];exact e
theorem Lnt.ok {v v':AV} (f:Lnt S.heap v v'):∀ {x:Value},VRel c v x→VRel (c.lend cE S w) v' x:=by
 have fr:∀ {u:AV} {y:Value},u.bnd 0 0=true→VRel c u y→VRel (c.lend cE S w) u y:=fun hb hu=>hu.free hb fun b o z e=>lend_K h e
 induction f with
 | same v hb=>intro x hx;exact fr hb hx
 | unk l n t hb=>intro x hx;exact fr (u:=.slice l n .unk) (by simpa [AV.bnd] using hb) (Sub.unk l n t _ x hx)
 | nil=>intro x hx;cases hx;exact .sliceNil .unk (fun k e=>by cases e)
 | row i o n cap z l hi hb hl hn =>
  intro x hx
  cases hx with
  | sref _ _ _ _ m cap' hm hc =>
   refine .slice _ n .unk m o cap' (fun j=>(w.cell? ⟨m,o+j,none⟩).getD Go.undef) (by omega) (fun j hj => ?_) (fun j y hy => ?_) (fun e=>by cases e) (fun k e=>by cases e)
   ·have hj':o+j<l.length:=by simp at hj;omega
    obtain ⟨_,_,v,h1,_⟩:=zDz h hi hm hj'
    rw [zCy ⟨i,l,hi,hm,hj'⟩,h1];rfl
   ·rw [List.getElem?_take] at hy
    split at hy
    ·rename_i hjn
     rw [List.getElem?_drop] at hy
     have hj':o+j<l.length:=by omega
     obtain ⟨_,_,v,h1,h2⟩:=zDz h hi hm hj'
     rw [h1,qD]
     have hbj:=zBh hb hy
     rw [zF hj'] at hy
     cases hy
     exact fr hbj h2
    ·cases hy
 | ptr i o l hi hb =>
  intro x hx
  cases hx with
  | ref _ _ m hm =>
   have:=VRel.eptr (c:=c.lend cE S w) l o m 0 (fun j=>(w.cell? ⟨m,j,none⟩).getD Go.undef) (fun j hj=>by
    obtain ⟨_,_,v,h1,_⟩:=zDz h hi hm hj
    rw [Nat.zero_add,zCy ⟨i,l,hi,hm,hj⟩,h1];rfl) (fun j y hy=>by
    obtain ⟨u,hu⟩:∃ u,l[j]? = some u:=⟨y,hy⟩
    have hj:j<l.length:=by
     rcases zU j l.length with h' | h'
     ·exact h'
     ·rw [zN h'] at hy;cases hy
    obtain ⟨_,_,v,h1,h2⟩:=zDz h hi hm hj
    rw [h1,qD]
    have hbj:=zBh hb hy
    rw [zF hj] at hy
    cases hy
    exact fr hbj h2)
   simpa using this
 | ptrs i o l l' hi hl h' ih =>
  intro x hx
  cases hx with
  | ref _ _ m hm =>
   have:=VRel.eptr (c:=c.lend cE S w) l' o m 0 (fun j=>(w.cell? ⟨m,j,none⟩).getD Go.undef) (fun j hj=>by
    have hj':j<l.length:=by omega
    obtain ⟨_,_,v,h1,_⟩:=zDz h hi hm hj'
    rw [Nat.zero_add,zCy ⟨i,l,hi,hm,hj'⟩,h1];rfl) (fun j y hy=>by
    obtain ⟨u,hu⟩:=zCf hl hy
    have hj:j<l.length:=by
     rcases zU j l.length with h' | h'
     ·exact h'
     ·rw [zN h'] at hu;cases hu
    obtain ⟨_,_,v,h1,h2⟩:=zDz h hi hm hj
    rw [h1,qD]
    rw [zF hj] at hu
    cases hu
    exact ih j _ y (zF hj) hy h2)
   simpa using this
 | slice l l' n t hl h' ih =>
  intro x hx
  cases hx with
  | slice _ _ _ b off cap vs hc hk hr he ht =>
   refine .slice l' n .unk b off cap vs hc (fun j hj=>lend_K h (hk j (by omega))) (fun j y hy => ?_) (fun e=>by cases e) (fun k e=>by cases e)
   obtain ⟨u,hu⟩:=zCf hl hy
   exact ih j u y hu hy (hr j u hu)
  | sliceNil _ ht =>
   have:l'=[]:=by cases l' <;> simp_all
   subst this
   exact .sliceNil .unk (fun k e=>by cases e)
 | agg l l' hl h' ih =>
  intro x hx
  cases hx with
  | agg _ vs hl2 h2 =>
   refine .agg l' vs (by omega) (fun j y u hy hu => ?_)
   obtain ⟨z,hz⟩:=zCf hl hy
   exact ih j z y hz hy (h2 j z u hz hu)
 | func fn f1 c1 f2 c2 hf h1 hc h2 ih1 ih2 =>
  intro x hx
  cases hx with
  | func _ _ _ g1 g2 hl hl' hff hcc =>
   refine .func fn f2 c2 g1 g2 (by omega) (by omega) (fun j y u hy hu => ?_) (fun j y u hy hu => ?_)
   ·obtain ⟨z,hz⟩:=zCf hf hy
    exact ih1 j z y hz hy (hff j z u hz hu)
   ·obtain ⟨z,hz⟩:=zCf hc hy
    exact ih2 j z y hz hy (hcc j z u hz hu)
end
def LntL (h:List (Option Blk)) (args args':List AV):Prop:=args.length=args'.length ∧ ∀ (j:Nat) (x y:AV),args[j]? = some x→args'[j]? = some y→Lnt h x y
theorem LntL.nil (h:List (Option Blk)):LntL h [] []:=⟨rfl,fun j x y e=>by simp at e⟩
theorem LntL.cons {h:List (Option Blk)} {x y:AV} {l l':List AV} (hx:Lnt h x y) (hl:LntL h l l'):LntL h (x :: l) (y :: l'):=
 ⟨by simp [hl.1],fun j a b h1 h2=>by
  cases j with
  | zero=>simp at h1 h2;subst h1;subst h2;exact hx
  | succ j=>exact hl.2 j a b (by simpa using h1) (by simpa using h2)⟩
theorem PC.lend {P:Program} {f:FuncId} {args args':List AV} {v:AV} (h:PC P f args' (.pure v)) {S:St} (hf:LntL S.heap args args') (hv:v.flat=true):AC P f args S fun e S'=>e=.ret v∧S'=S:=by
 intro c w vs hs hl
 obtain ⟨cE,hE,eK,eμ,eτ,esz,eX,eXO,eB,eT,eF⟩:=hide hs
 have hst:StRel (c.lend cE S w) St.empty w:={
  sz:=hE.sz
  tab:=fun i hi=>by
   by_cases hx:Lent c S tabB i
   ·rw [zCy hx];exact hs.K _ _ _ (hs.tab i hi)
   ·rw [zDr hx];exact hs.tab i hi
  tsh:=hs.tsh
  fr:=hE.fr
  K:=fun b o u e=>by
   by_cases hx:Lent c S b o
   ·rw [zCy hx] at e;exact e
   ·rw [zDr hx] at e;exact hs.K b o u e
  X:=fun b o u e=>by
   by_cases hx:Lent c S b o
   ·rw [lend_X_in hx] at e;cases e
   ·rw [lend_X_out hx] at e
    obtain ⟨g1,g2,g3⟩:=hE.X b o u e
    exact ⟨g1,g2,by rw [zDr hx,← eK];exact g3⟩
  XO:=hE.XO
  F:=fun b o e=>by
   by_cases hx:Lent c S b o
   ·obtain ⟨_,_,a3,v,a4⟩:=Lent.at hs hx
    exact ⟨zAk a4,a3⟩
   ·rw [lend_F_out hx] at e;exact hE.F b o e
  dom:=fun i n e=>by
   have:cE.μ i=some n:=e
   rw [eμ] at this;cases this
  tdom:=fun k x e=>by
   have:cE.τ k=some x:=e
   rw [eτ] at this;cases this
  blk:=fun i B e=>by simp [St.empty] at e
  inj:=fun i j Bi Bj n e=>by simp [St.empty] at e
  tok:=fun k e=>by simp [St.empty] at e
  tinj:=fun k k' b lo hi lo' hi' e=>by simp [St.empty] at e
  tblk:=fun k i b lo hi B e=>by simp [St.empty] at e
  tfr:=fun k b lo hi e=>by simp [St.empty] at e }
 have hll:LRel (c.lend cE S w) args' vs:=⟨hf.1 ▸ hl.1,fun j y u hy hu=>by
  obtain ⟨x,hx⟩:=zCf hf.1 hy
  exact Lnt.ok hs (hf.2 j x y hx hy) (hl.2 j x u hx hu)⟩
 refine (h _ St.empty w vs hst hll).mono fun e w' ⟨x,he,c',g1,g2,g3,g4,g5⟩ => ?_
 subst he
 have hsz:w.heap.size≤w'.heap.size:=by
  have h1:=g4.sz
  rw [g1.sz] at h1
  have h2:(c.lend cE S w).sz=cE.sz:=rfl
  rw [h2,esz] at h1;exact h1
 have notLent:∀ {b o:Nat} {u:Value},c.X b o=some u → ¬ Lent c S b o:=fun e hx=>by rw [(Lent.at hs hx).2.1] at e;cases e
 have keepX:∀ {b o:Nat} {u:Value},¬ Lent c S b o→cE.X b o=some u→w'.cell? ⟨b,o,none⟩=some u∧w'.frozen? ⟨b,o,none⟩=false:=fun hx e=>by
  have:=g4.X _ _ _ (by rw [g1.X,lend_X_out hx];exact e)
  exact ⟨this.1,this.2.1⟩
 refine ⟨.ret v,S,c,Cx.le.refl c,⟨rfl,rfl⟩,g5.flat hv, ?_⟩
 exact {
  sz:=Nat.le_trans hs.sz hsz
  tab:=hs.tab
  tsh:=g4.tsh
  fr:=by have h0:=g4.fr;rw [g1.FZ] at h0;have h1:Frm cE.FZ.w0 w':=h0;rw [eF.2.1] at h1;exact h1
  K:=fun b o u e=>g4.K b o u (g1.K b o u (lend_K hs e))
  X:=fun b o u e=>by
   obtain ⟨k1,k2⟩:=keepX (notLent e) (eX b o u e)
   exact ⟨k1,k2,(hs.X b o u e).2.2⟩
  XO:=fun b ob e=>g4.XO b ob (by rw [g1.XO];exact eXO b ob e)
  F:=fun b o e=>g4.F b o (by
   rw [g1.FZ]
   by_cases hx:Lent c S b o
   ·exact lend_F_in hx
   ·rw [lend_F_out hx];exact eF.1 b o e)
  dom:=fun i n e=>⟨(hs.dom i n e).1,qL (hs.dom i n e).2 hsz⟩
  tdom:=fun k x e=>⟨(hs.tdom k x e).1,qL (hs.tdom k x e).2 hsz⟩
  blk:=fun i B e=>by
   obtain ⟨n,h1,h2⟩:=hs.blk i B e
   obtain ⟨b1,b2⟩:=eB i B n e h1
   refine ⟨n,h1, ?_⟩
   cases B with
   | cells l =>
    intro o x hx
    obtain ⟨a1,a2,a3,u,a4,a5⟩:=h2 o x hx
    have ho:o<l.length:=by
     rcases zU o l.length with h' | h'
     ·exact h'
     ·rw [zN h'] at hx;cases hx
    have hlt:Lent c S n o:=⟨i,l,e,h1,ho⟩
    refine ⟨a1,a2,(g4.F n o (by rw [g1.FZ];exact lend_F_in hlt)).2,u,g4.K n o u (g1.K n o u (by rw [zCy hlt];exact a4)),a5⟩
   | map es =>
    obtain ⟨a1,en,cl,a2,a3,a4⟩:=h2
    obtain ⟨ob,hob⟩:=b2 trivial
    have h3:=(hE.XO n ob hob).1
    rw [a2] at h3;cases h3
    exact ⟨a1,en,cl,(g4.XO n _ (by rw [g1.XO];exact hob)).1,a3,a4⟩
   | siter s p =>
    obtain ⟨ob,hob⟩:=b2 trivial
    have h3:=(hE.XO n ob hob).1
    rw [h2.2] at h3;cases h3
    exact ⟨h2.1,(g4.XO n _ (by rw [g1.XO];exact hob)).1⟩
   | loop r =>
    obtain ⟨ob,hob⟩:=b2 trivial
    have h3:=(hE.XO n ob hob).1
    rw [h2.2] at h3;cases h3
    exact ⟨h2.1,(g4.XO n _ (by rw [g1.XO];exact hob)).1⟩
  inj:=hs.inj
  tok:=fun k hk=>by
   obtain ⟨b,lo,hi,h1,h2⟩:=hs.tok k hk
   refine ⟨b,lo,hi,h1,fun o h3 h4 => ?_⟩
   obtain ⟨a1,a2,a3,a4⟩:=h2 o h3 h4
   obtain ⟨u,hu⟩:=eT k b lo hi hk h1 o h3 h4
   have hx:¬ Lent c S b o:=fun ⟨i,l,q1,q2,_⟩=>hs.tblk k i b lo hi _ hk q1 h1 q2
   obtain ⟨k1,k2⟩:=keepX hx hu
   exact ⟨a1,a2,k2,u,k1⟩
  tinj:=hs.tinj
  tblk:=hs.tblk
  tfr:=fun k b lo hi hk e o=>(g4.F b o (by
   rw [g1.FZ]
   have hx:¬ Lent c S b o:=fun ⟨i,l,q1,q2,_⟩=>hs.tblk k i b lo hi _ hk q1 e q2
   rw [lend_F_out hx]
   exact eF.2.2 k b lo hi hk e o)).2 }
def sq (K:AV→St→Prop) (h:Hold K) (o:Option Res) (S:St):Prop:=
 match o with
 | some r=>r.quiet=true∧r.ok S∧K (r.app S).1 (r.app S).2
 | none=>False
@[go_sem] theorem sq_pure (v:AV) (S:St) (K:AV→St→Prop) (h:Hold K):sq K h (some (.pure v)) S=K v S:=by simp [sq,Res.ok,Res.app,Res.quiet]
@[go_sem] theorem sq_alloc (B:Blk) (mk:Nat→AV) (S:St) (K:AV→St→Prop) (h:Hold K):sq K h (some (.alloc B mk)) S=K (mk S.heap.length) { S with heap:=S.heap ++ [some B] }:=by simp [sq,Res.ok,Res.app,Res.quiet]
@[go_sem] theorem sq_tok (mk:Nat→AV) (S:St) (K:AV→St→Prop) (h:Hold K):sq K h (some (.tok none mk)) S=K (mk S.nt) { S with toks:=S.nt :: S.toks,nt:=S.nt+1 }:=by simp [sq,Res.ok,Res.app,killTok,Res.quiet]
@[go_sem] theorem sq_tok_some (k:Nat) (mk:Nat→AV) (S:St) (K:AV→St→Prop) (h:Hold K):sq K h (some (.tok (some k) mk)) S=(k∈S.toks∧K (mk S.nt) { S with toks:=S.nt :: killTok S.toks (some k),nt:=S.nt+1 }):=by simp [sq,Res.ok,Res.app,Res.quiet]
def sf (K:AV→Prop) (h:Hold K) (o:Option Res):Prop:=
 match o with
 | some (.pure v)=>K v
 | _=>False
@[go_sem] theorem sf_pure (v:AV) (K:AV→Prop) (h:Hold K):sf K h (some (.pure v))=K v:=rfl
def sqc (E:Env) (K:AV→St→Prop) (h:Hold K) (c:Option (FuncId × List AV)) (S:St):Prop:=
 match c with
 | some (f,args)=>Callable E.P f ∧ ∃ args' r,SubL args args'∧PC E.P f args' r∧r.quiet=true∧r.noKill=true∧K (r.app S).1 (r.app S).2
 | none=>False
@[go_sem] theorem y_zero {E:Env} {K:TS→St→Prop} {l:List MO} {hs:List Bool} {b:St} {ts:TS} {S:St}:preM E K 0 l hs b ts S=K ts S:=rfl
@[go_sem] theorem y_guard {E:Env} {K:TS→St→Prop} {n:Nat} {rest:List MO} {b:St} {ts:TS} {S:St} (t:Nat) (g:Bool) (d:Option Nat) (o:Op) :
  preM E K (n+1) (⟨some (t,g),d,o⟩ :: rest) [] b ts S=sg (preM E K (n+1) (⟨none,d,o⟩ :: rest) [] b ts S) (preM E K n rest [] b (setT ts d .undef) S) ⟨⟩ ⟨⟩ g (ts.get t):=by
 simp only [preM,guardM,sg]
 cases h:ts.get t with
 | none=>rfl
 | some v =>
  cases v with
  | bool c=>cases c <;> cases g <;> simp
  | _=>rfl
@[go_sem] theorem y_free {E:Env} {K:TS→St→Prop} {n:Nat} {rest:List MO} {hs:List Bool} {b:St} {ts:TS} {S:St} (d:Option Nat) (o:Op) :
  preM E K (n+1) (⟨none,d,o⟩ :: rest) (true :: hs) b ts S=sf (fun v=>preM E K n rest hs b (setT ts d v) S) ⟨⟩ (astepO E.T St.none ts o):=by
 simp only [preM,guardM,QOp,yF,yH,if_true,sf]
 cases h:astepO E.T St.none ts o with
 | none=>rfl
 | some r=>cases r <;> simp [Res.calm,Res.app]
@[go_sem] theorem y_move {E:Env} {K:TS→St→Prop} {n:Nat} {rest:List MO} {b:St} {ts:TS} {S:St} (d:Option Nat) (x:Operand):preM E K (n+1) (⟨none,d,.move x⟩ :: rest) [] b ts S=sq (fun v S'=>preM E K n rest [] b (setT ts d v) S') ⟨⟩ (astepO E.T b ts (.move x)) S:=by
 simp only [preM,guardM,QOp,yS,List.tail_nil,zS,if_false,isW,sq]
 cases astepO E.T b ts (.move x) <;> rfl
@[go_sem] theorem z_move {E:Env} {K:TS→St→Prop} {n:Nat} {rest:List MO} {hs:List Bool} {b:St} {ts:TS} {S:St} (d:Option Nat) (x:Operand):preM E K (n+1) (⟨none,d,.move x⟩ :: rest) (false :: hs) b ts S=sq (fun v S'=>preM E K n rest hs b (setT ts d v) S') ⟨⟩ (astepO E.T b ts (.move x)) S:=by
 simp only [preM,guardM,QOp,yF,yH,zS,if_false,isW,sq]
 cases astepO E.T b ts (.move x) <;> rfl
@[go_sem] theorem y_assign {E:Env} {K:TS→St→Prop} {n:Nat} {rest:List MO} {b:St} {ts:TS} {S:St} (d:Option Nat) (x:Operand):preM E K (n+1) (⟨none,d,.assign x⟩ :: rest) [] b ts S=sq (fun v S'=>preM E K n rest [] b (setT ts d v) S') ⟨⟩ (astepO E.T b ts (.assign x)) S:=by
 simp only [preM,guardM,QOp,yS,List.tail_nil,zS,if_false,isW,sq]
 cases astepO E.T b ts (.assign x) <;> rfl
@[go_sem] theorem y_pick {E:Env} {K:TS→St→Prop} {n:Nat} {rest:List MO} {b:St} {ts:TS} {S:St} (d:Option Nat) (c x y:Operand):preM E K (n+1) (⟨none,d,.pick c x y⟩ :: rest) [] b ts S=sq (fun v S'=>preM E K n rest [] b (setT ts d v) S') ⟨⟩ (astepO E.T b ts (.pick c x y)) S:=by
 simp only [preM,guardM,QOp,yS,List.tail_nil,zS,if_false,isW,sq]
 cases astepO E.T b ts (.pick c x y) <;> rfl
@[go_sem] theorem z_pick {E:Env} {K:TS→St→Prop} {n:Nat} {rest:List MO} {hs:List Bool} {b:St} {ts:TS} {S:St} (d:Option Nat) (c x y:Operand):preM E K (n+1) (⟨none,d,.pick c x y⟩ :: rest) (false :: hs) b ts S=sq (fun v S'=>preM E K n rest hs b (setT ts d v) S') ⟨⟩ (astepO E.T b ts (.pick c x y)) S:=by
 simp only [preM,guardM,QOp,yF,yH,zS,if_false,isW,sq]
 cases astepO E.T b ts (.pick c x y) <;> rfl
@[go_sem] theorem y_alloc {E:Env} {K:TS→St→Prop} {n:Nat} {rest:List MO} {b:St} {ts:TS} {S:St} (d:Option Nat) (e:TypeId):preM E K (n+1) (⟨none,d,.alloc e⟩ :: rest) [] b ts S=sq (fun v S'=>preM E K n rest [] b (setT ts d v) S') ⟨⟩ (astepO E.T b ts (.alloc e)) S:=by
 simp only [preM,guardM,QOp,yS,List.tail_nil,zS,if_false,isW,sq]
 cases astepO E.T b ts (.alloc e) <;> rfl
@[go_sem] theorem z_alloc {E:Env} {K:TS→St→Prop} {n:Nat} {rest:List MO} {hs:List Bool} {b:St} {ts:TS} {S:St} (d:Option Nat) (e:TypeId):preM E K (n+1) (⟨none,d,.alloc e⟩ :: rest) (false :: hs) b ts S=sq (fun v S'=>preM E K n rest hs b (setT ts d v) S') ⟨⟩ (astepO E.T b ts (.alloc e)) S:=by
 simp only [preM,guardM,QOp,yF,yH,zS,if_false,isW,sq]
 cases astepO E.T b ts (.alloc e) <;> rfl
@[go_sem] theorem y_build {E:Env} {K:TS→St→Prop} {n:Nat} {rest:List MO} {b:St} {ts:TS} {S:St} (d:Option Nat) (t:TypeId) (ps:Array (Nat × Operand)):preM E K (n+1) (⟨none,d,.build t ps⟩ :: rest) [] b ts S=sq (fun v S'=>preM E K n rest [] b (setT ts d v) S') ⟨⟩ (astepO E.T b ts (.build t ps)) S:=by
 simp only [preM,guardM,QOp,yS,List.tail_nil,zS,if_false,isW,sq]
 cases astepO E.T b ts (.build t ps) <;> rfl
@[go_sem] theorem y_buildSlice {E:Env} {K:TS→St→Prop} {n:Nat} {rest:List MO} {b:St} {ts:TS} {S:St} (d:Option Nat) (t:TypeId) (sz:Nat) (ps:Array (Nat × Operand)):preM E K (n+1) (⟨none,d,.buildSlice t sz ps⟩ :: rest) [] b ts S=sq (fun v S'=>preM E K n rest [] b (setT ts d v) S') ⟨⟩ (astepO E.T b ts (.buildSlice t sz ps)) S:=by
 simp only [preM,guardM,QOp,yS,List.tail_nil,zS,if_false,isW,sq]
 cases astepO E.T b ts (.buildSlice t sz ps) <;> rfl
@[go_sem] theorem y_load {E:Env} {K:TS→St→Prop} {n:Nat} {rest:List MO} {b:St} {ts:TS} {S:St} (d:Option Nat) (t:TypeId) (a:Operand):preM E K (n+1) (⟨none,d,.load t a⟩ :: rest) [] b ts S=sq (fun v S'=>preM E K n rest [] b (setT ts d v) S') ⟨⟩ (astepO E.T b ts (.load t a)) S:=by
 simp only [preM,guardM,QOp,yS,List.tail_nil,zS,if_false,isW,sq]
 cases astepO E.T b ts (.load t a) <;> rfl
@[go_sem] theorem z_load {E:Env} {K:TS→St→Prop} {n:Nat} {rest:List MO} {hs:List Bool} {b:St} {ts:TS} {S:St} (d:Option Nat) (t:TypeId) (a:Operand):preM E K (n+1) (⟨none,d,.load t a⟩ :: rest) (false :: hs) b ts S=sq (fun v S'=>preM E K n rest hs b (setT ts d v) S') ⟨⟩ (astepO E.T b ts (.load t a)) S:=by
 simp only [preM,guardM,QOp,yF,yH,zS,if_false,isW,sq]
 cases astepO E.T b ts (.load t a) <;> rfl
@[go_sem] theorem z_store {E:Env} {K:TS→St→Prop} {n:Nat} {rest:List MO} {hs:List Bool} {b:St} {ts:TS} {S:St} (d:Option Nat) (t:TypeId) (a v:Operand):preM E K (n+1) (⟨none,d,.store t a v⟩ :: rest) (false :: hs) b ts S=sr (fun v S'=>preM E K n rest hs S' (setT ts d v) S') ⟨⟩ (astepO E.T S ts (.store t a v)) S:=by
 simp only [preM,guardM,QOp,yF,yH,zS,if_false,isW,if_true,sr]
 cases astepO E.T S ts (.store t a v) <;> rfl
@[go_sem] theorem y_binOp {E:Env} {K:TS→St→Prop} {n:Nat} {rest:List MO} {b:St} {ts:TS} {S:St} (d:Option Nat) (op:BinOp) (t:TypeId) (x y:Operand) (t':TypeId):preM E K (n+1) (⟨none,d,.binOp op t x y t'⟩ :: rest) [] b ts S=sq (fun v S'=>preM E K n rest [] b (setT ts d v) S') ⟨⟩ (astepO E.T b ts (.binOp op t x y t')) S:=by
 simp only [preM,guardM,QOp,yS,List.tail_nil,zS,if_false,isW,sq]
 cases astepO E.T b ts (.binOp op t x y t') <;> rfl
@[go_sem] theorem y_convert {E:Env} {K:TS→St→Prop} {n:Nat} {rest:List MO} {b:St} {ts:TS} {S:St} (d:Option Nat) (s t:TypeId) (x:Operand):preM E K (n+1) (⟨none,d,.convert s t x⟩ :: rest) [] b ts S=sq (fun v S'=>preM E K n rest [] b (setT ts d v) S') ⟨⟩ (astepO E.T b ts (.convert s t x)) S:=by
 simp only [preM,guardM,QOp,yS,List.tail_nil,zS,if_false,isW,sq]
 cases astepO E.T b ts (.convert s t x) <;> rfl
@[go_sem] theorem z_slice {E:Env} {K:TS→St→Prop} {n:Nat} {rest:List MO} {hs:List Bool} {b:St} {ts:TS} {S:St} (d:Option Nat) (t:TypeId) (x:Operand) (lo hi mx:Option Operand):preM E K (n+1) (⟨none,d,.slice t x lo hi mx⟩ :: rest) (false :: hs) b ts S=sq (fun v S'=>preM E K n rest hs b (setT ts d v) S') ⟨⟩ (astepO E.T b ts (.slice t x lo hi mx)) S:=by
 simp only [preM,guardM,QOp,yF,yH,zS,if_false,isW,sq]
 cases astepO E.T b ts (.slice t x lo hi mx) <;> rfl
@[go_sem] theorem y_fieldAddr {E:Env} {K:TS→St→Prop} {n:Nat} {rest:List MO} {b:St} {ts:TS} {S:St} (d:Option Nat) (s:TypeId) (x:Operand) (f:Nat):preM E K (n+1) (⟨none,d,.fieldAddr s x f⟩ :: rest) [] b ts S=sq (fun v S'=>preM E K n rest [] b (setT ts d v) S') ⟨⟩ (astepO E.T b ts (.fieldAddr s x f)) S:=by
 simp only [preM,guardM,QOp,yS,List.tail_nil,zS,if_false,isW,sq]
 cases astepO E.T b ts (.fieldAddr s x f) <;> rfl
@[go_sem] theorem z_fieldAddr {E:Env} {K:TS→St→Prop} {n:Nat} {rest:List MO} {hs:List Bool} {b:St} {ts:TS} {S:St} (d:Option Nat) (s:TypeId) (x:Operand) (f:Nat):preM E K (n+1) (⟨none,d,.fieldAddr s x f⟩ :: rest) (false :: hs) b ts S=sq (fun v S'=>preM E K n rest hs b (setT ts d v) S') ⟨⟩ (astepO E.T b ts (.fieldAddr s x f)) S:=by
 simp only [preM,guardM,QOp,yF,yH,zS,if_false,isW,sq]
 cases astepO E.T b ts (.fieldAddr s x f) <;> rfl
@[go_sem] theorem y_indexAddr {E:Env} {K:TS→St→Prop} {n:Nat} {rest:List MO} {b:St} {ts:TS} {S:St} (d:Option Nat) (t:TypeId) (x i:Operand):preM E K (n+1) (⟨none,d,.indexAddr t x i⟩ :: rest) [] b ts S=sq (fun v S'=>preM E K n rest [] b (setT ts d v) S') ⟨⟩ (astepO E.T b ts (.indexAddr t x i)) S:=by
 simp only [preM,guardM,QOp,yS,List.tail_nil,zS,if_false,isW,sq]
 cases astepO E.T b ts (.indexAddr t x i) <;> rfl
@[go_sem] theorem y_index {E:Env} {K:TS→St→Prop} {n:Nat} {rest:List MO} {b:St} {ts:TS} {S:St} (d:Option Nat) (t:TypeId) (x i:Operand):preM E K (n+1) (⟨none,d,.index t x i⟩ :: rest) [] b ts S=sq (fun v S'=>preM E K n rest [] b (setT ts d v) S') ⟨⟩ (astepO E.T b ts (.index t x i)) S:=by
 simp only [preM,guardM,QOp,yS,List.tail_nil,zS,if_false,isW,sq]
 cases astepO E.T b ts (.index t x i) <;> rfl
@[go_sem] theorem z_extract {E:Env} {K:TS→St→Prop} {n:Nat} {rest:List MO} {hs:List Bool} {b:St} {ts:TS} {S:St} (d:Option Nat) (x:Operand) (i:Nat):preM E K (n+1) (⟨none,d,.extract x i⟩ :: rest) (false :: hs) b ts S=sq (fun v S'=>preM E K n rest hs b (setT ts d v) S') ⟨⟩ (astepO E.T b ts (.extract x i)) S:=by
 simp only [preM,guardM,QOp,yF,yH,zS,if_false,isW,sq]
 cases astepO E.T b ts (.extract x i) <;> rfl
@[go_sem] theorem zEm {E:Env} {K:TS→St→Prop} {n:Nat} {rest:List MO} {b:St} {ts:TS} {S:St} (d:Option Nat) (bi:Builtin) (args:Array Operand) (tys:Array TypeId) (h:isW (.call { callee:=.builtin bi,args:=args,argTypes:=tys })=false) :
  preM E K (n+1) (⟨none,d,.call { callee:=.builtin bi,args:=args,argTypes:=tys }⟩ :: rest) [] b ts S=sq (fun v S'=>preM E K n rest [] b (setT ts d v) S') ⟨⟩ (astepO E.T b ts (.call { callee:=.builtin bi,args:=args,argTypes:=tys })) S:=by
 simp only [preM,guardM,QOp,yS,List.tail_nil,zS,if_false,h,sq]
 cases h2:astepO E.T b ts (.call { callee:=.builtin bi,args:=args,argTypes:=tys }) with
 | some r=>rfl
 | none=>simp [callee]
@[go_sem] theorem isW_len (args:Array Operand) (tys:Array TypeId):isW (.call { callee:=.builtin .len,args:=args,argTypes:=tys })=false:=rfl
@[go_sem] theorem isW_app (args:Array Operand) (tys:Array TypeId):isW (.call { callee:=.builtin .append,args:=args,argTypes:=tys })=false:=rfl
@[go_sem] theorem isW_min (args:Array Operand) (tys:Array TypeId):isW (.call { callee:=.builtin .min,args:=args,argTypes:=tys })=false:=rfl
@[go_sem] theorem isW_max (args:Array Operand) (tys:Array TypeId):isW (.call { callee:=.builtin .max,args:=args,argTypes:=tys })=false:=rfl
@[go_sem] theorem y_callv {E:Env} {K:TS→St→Prop} {n:Nat} {rest:List MO} {b:St} {ts:TS} {S:St} (d:Option Nat) (f:Operand) (args:Array Operand) (tys:Array TypeId) :
  preM E K (n+1) (⟨none,d,.call { callee:=.value f,args:=args,argTypes:=tys }⟩ :: rest) [] b ts S=sqc E (fun v S'=>preM E K n rest [] b (setT ts d v) S') ⟨⟩ (callee E ts { callee:=.value f,args:=args,argTypes:=tys }) S:=by
 simp only [preM,guardM,QOp,yS,List.tail_nil,zS,if_false,isW,astepO,sqc]
 cases callee E ts { callee:=.value f,args:=args,argTypes:=tys } <;> rfl
@[go_sem] theorem y_callv_z {E:Env} {K:TS→St→Prop} {n:Nat} {rest:List MO} {hs:List Bool} {b:St} {ts:TS} {S:St} (d:Option Nat) (f:Operand) (args:Array Operand) (tys:Array TypeId) :
  preM E K (n+1) (⟨none,d,.call { callee:=.value f,args:=args,argTypes:=tys }⟩ :: rest) (false :: hs) b ts S=sqc E (fun v S'=>preM E K n rest hs b (setT ts d v) S') ⟨⟩ (callee E ts { callee:=.value f,args:=args,argTypes:=tys }) S:=by
 simp only [preM,guardM,QOp,yF,yH,zS,if_false,isW,astepO,sqc]
 cases callee E ts { callee:=.value f,args:=args,argTypes:=tys } <;> rfl
attribute [go_sem] List.drop_succ_cons List.drop_zero List.drop_nil
section
variable {E:Env} {f:FuncId} {args args':List AV} {S:St} {K Kp:AV→St→Prop} {h1:Hold K} {h2:Hold Kp}
theorem zCb {R:AEnd→St→Prop} (hf:Callable E.P f) (h:AC E.P f args S R) (k:∀ v S',R (.ret v) S'→K v S') (kp:∀ v S',R (.panic v) S'→Kp v S'):sc E K Kp h1 h2 (some (f,args)) S:=
 ⟨hf,args,R,SubL.refl _,h,k,kp⟩
theorem call_pc {r:Res} (hf:Callable E.P f) (h:PC E.P f args' r) (hs:SubL args args') (k:K (r.app S).1 (r.app S).2):sc E K Kp h1 h2 (some (f,args)) S:=
 ⟨hf,args',_,hs,h.ac S,fun v S' e=>by
  obtain ⟨e1,e2⟩:=e
  cases e1;subst e2;exact k,fun v S' e=>by cases e.1⟩
theorem zCa {v:AV} (hf:Callable E.P f) (h:PC E.P f args' (.pure v)) (hs:SubL args args') (k:K v S):sc E K Kp h1 h2 (some (f,args)) S:=call_pc hf h hs k
theorem call_alloc {B:Blk} {mk:Nat→AV} (hf:Callable E.P f) (h:PC E.P f args' (.alloc B mk)) (hs:SubL args args') (k:K (mk S.heap.length) { S with heap:=S.heap ++ [some B] }):sc E K Kp h1 h2 (some (f,args)) S:=call_pc hf h hs k
theorem call_lend {v:AV} (hf:Callable E.P f) (h:PC E.P f args' (.pure v)) (hl:LntL S.heap args args') (hv:v.flat=true) (k:K v S):sc E K Kp h1 h2 (some (f,args)) S:=
 zCb hf (h.lend hl hv) (fun v' S' e=>by
  obtain ⟨e1,e2⟩:=e
  cases e1;subst e2;exact k) (fun v S' e=>by cases e.1)
theorem callq {r:Res} (hf:Callable E.P f) (h:PC E.P f args' r) (hs:SubL args args') (h3:r.quiet=true) (h4:r.noKill=true) (k:K (r.app S).1 (r.app S).2):sqc E K h1 (some (f,args)) S:=
 ⟨hf,args',r,hs,h,h3,h4,k⟩
theorem zBo {v:AV} (hf:Callable E.P f) (h:PC E.P f args' (.pure v)) (hs:SubL args args') (k:K v S):sqc E K h1 (some (f,args)) S:=callq hf h hs rfl rfl k
theorem callq_tok {mk:Nat→AV} (hf:Callable E.P f) (h:PC E.P f args' (.tok none mk)) (hs:SubL args args') (k:K (mk S.nt) { S with toks:=S.nt :: S.toks,nt:=S.nt+1 }):sqc E K h1 (some (f,args)) S:=callq hf h hs rfl rfl k
end
def fnv (o:Option AV) (vs:Option (List AV)):Option (FuncId × List AV):=
 match o,vs with
 | some (.func (.func g) first cap),some vs=>some (g,first ++ vs ++ cap)
 | _,_=>none
@[go_sem] theorem fnv_some (g:FuncId) (first cap vs:List AV):fnv (some (.func (.func g) first cap)) (some vs)=some (g,first ++ vs ++ cap):=rfl
@[go_sem] theorem fnv_yield (l:Nat) (first cap vs:List AV):fnv (some (.func (.yield l) first cap)) (some vs)=none:=rfl
@[go_sem] theorem callee_tmp {E:Env} {ts:TS} (t:Nat) (args:Array Operand) (tys:Array TypeId):callee E ts { callee:=.value (.tmp t),args:=args,argTypes:=tys }=fnv (ts.get t) (evs ts args.toList):=by
 simp only [callee,aeval,fnv]
 cases ts.get t with
 | none=>rfl
 | some v=>cases v with
  | func fn first cap=>cases fn <;> cases evs ts args.toList <;> rfl
  | _=>rfl
def ifv (E:Env) (name:String) (o:Option AV) (vs:Option (List AV)):Option (FuncId × List AV):=
 match o,vs with
 | some (.iface t v),some vs=>(E.M t name).map fun g=>(g,v :: vs)
 | _,_=>none
@[go_sem] theorem ifv_some (E:Env) (name:String) (t:TypeId) (v:AV) (vs:List AV):ifv E name (some (.iface t v)) (some vs)=(E.M t name).map fun g=>(g,v :: vs):=rfl
@[go_sem] theorem x_invoke {E:Env} {Q:AQ} {rest:List MO} {ts:TS} {S:St} (d:Option Nat) (r:Operand) (name:String) (args:Array Operand) (tys:Array TypeId) :
  opsM E Q (⟨none,d,.call { callee:=.invoke r name,args:=args,argTypes:=tys }⟩ :: rest) ts S=sc E (fun v S'=>opsM E Q rest (setT ts d v) S') (fun v S'=>Q (.panic v) ts S') ⟨⟩ ⟨⟩ (ifv E name (aeval ts r) (evs ts args.toList)) S:=by
 simp only [opsM,guardM,opM,sc,astepO,callee,ifv]
 cases aeval ts r with
 | none=>rfl
 | some v=>cases v with
  | iface t v=>cases evs ts args.toList with
   | none=>rfl
   | some vs=>cases E.M t name <;> rfl
  | _=>rfl
theorem zBi {E:Env} {c:MC} {Q:AQ} {ts:TS} {S:St} (N:Nat) (P:Nat→Prop) (f:Nat→TS) (g:Nat→St) (hP:P 0) (h0:f 0=ts) (h1:g 0=S)
  (h:∀ k,k≤N→P k → ∀ I:TS→St→Prop,(k<N→P (k+1)→I (f (k+1)) (g (k+1)))→WC E c (thenQ I Q) (f k) (g k)):WC E (.loop c) Q ts S:=by
 refine zAu (fun n ts' S' => ∃ k,k≤N∧P k∧n=N - k∧ts'=f k∧S'=g k) N ⟨0,qG _,hP,rfl,h0.symm,h1.symm⟩ ?_
 rintro n ts' S' ⟨k,hk,hp,rfl,rfl,rfl⟩
 exact h k hk hp _ fun hlt hp'=>zAj (N - (k+1)) (by omega) ⟨k+1,hlt,hp',rfl,rfl,rfl⟩
end Go.Av
end
