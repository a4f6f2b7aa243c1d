/- The card of the law LevelHeads is proved: for every argument that the card speaks of, the law, called as the card says, comes back with true and leaves the world as the card says. Conditions: those that the given statement names, and none besides. -/
import Derived.CallsIn
import Derived.RangeFuncLeaves
import Derived.RangeFuncRecord
import Derived.Laws.World
import Derived.Laws.Sem
import Derived.Laws.Cells
import Derived.Laws.IdiomCopy
import Derived.Laws.StructEq
import Derived.Laws.Append
import Derived.ArgAppend
set_option linter.all false
set_option linter.unusedVariables false
set_option linter.unusedSimpArgs false
set_option linter.unusedSectionVars false
open Array renaming getElem?_eq_none → qP
open Bool renaming false_eq_true → zS
open List renaming getElem?_eq_getElem → zF, getD_eq_getElem?_getD → zG, getElem?_eq_none → zN, length_cons → zW, getElem?_append_right → zY, getElem_mem → qB, length_append → qC, length_nil → qE, getElem?_append_left → qJ, getElem?_map → qK, getElem?_range → qR, getElem?_set → yC, getElem?_replicate → yD
open Nat renaming le_refl → zM, lt_or_ge → zU, lt_of_lt_of_le → qL
open Option renaming map_eq_some_iff → zK, map_some → zX, getD_some → qD
open Option.some renaming injEq → yT
open Go.Result renaming andThen_ok → yU
open Go.Sem renaming run_bind → yV
open Go.Sem renaming run_pure → yW
section
namespace Go.Av
open Go
inductive Tail where
  | unk | exact | tok (k:Nat)
  deriving DecidableEq
inductive AV where
  | bool (b:Bool)
  | int (k:IntKind) (n:Int)
  | str (s:ByteArray)
  | nilp
  | ref (i o:Nat)
  | eptr (l:List AV) (o:Nat)
  | slice (l:List AV) (n:Nat) (t:Tail)
  | nilS
  | sref (i o len cap:Nat)
  | func (fn:Fn) (first captured:List AV)
  | nilFunc
  | iface (t:TypeId) (v:AV)
  | nilIface
  | agg (l:List AV)
  | tuple (l:List AV)
  | map (i:Nat)
  | nilMap
def AV.undef:AV:=.tuple []
def AV.cells:AV→List AV
  | .agg l=>l
  | v=>[v]
def AV.one:AV→Bool
  | .agg _ | .tuple _=>false
  | _=>true
inductive Blk where
  | cells (l:List AV)
  | map (es:List (AV × AV))
  | siter (s:ByteArray) (pos:Nat)
  | loop (r:Loop)
structure St where
  heap:List (Option Blk)
  nt:Nat
  toks:List Nat
def St.empty:St:=⟨[],0,[]⟩
structure Frm (w w':World):Prop where
  os:w'.os=w.os
  out:w'.output=w.output
  blk:∀ (i:Nat) (cs:Array Value) (t:TypeId) (fr:Nat × Nat),w.heap[i]? = some (.cells cs t fr) → ∃ cs':Array Value,w'.heap[i]? = some (.cells cs' t fr)∧cs'.size=cs.size
theorem Frm.refl (w:World):Frm w w:=⟨rfl,rfl,fun i cs t fr h=>⟨cs,h,rfl⟩⟩
theorem Frm.trans {a b c:World} (h:Frm a b) (k:Frm b c):Frm a c:=
  ⟨k.os.trans h.os,k.out.trans h.out,fun i cs t fr e =>
    let ⟨c1,e1,s1⟩:=h.blk i cs t fr e
    let ⟨c2,e2,s2⟩:=k.blk i c1 t fr e1
    ⟨c2,e2,s2.trans s1⟩⟩
structure Fz where
  z:Nat→Nat→Bool
  w0:World
instance:CoeFun Fz (fun _=>Nat→Nat→Bool):=⟨Fz.z⟩
structure Cx where
  K:Nat→Nat→Option Value
  μ:Nat→Option Nat
  τ:Nat→Option (Nat × Nat × Nat)
  X:Nat→Nat→Option Value
  XO:Nat→Option Obj
  sz:Nat
  FZ:Fz
structure Cx.le (c c':Cx):Prop where
  K:∀ b o v,c.K b o=some v→c'.K b o=some v
  μ:∀ i n,c.μ i=some n→c'.μ i=some n
  τ:∀ i n,c.τ i=some n→c'.τ i=some n
  X:c'.X=c.X
  XO:c'.XO=c.XO
  sz:c'.sz=c.sz
  FZ:c'.FZ=c.FZ
  μn:∀ i n,c'.μ i=some n→c.μ i=some n∨c.sz≤n
  τn:∀ k x,c'.τ k=some x→c.τ k=some x∨c.sz≤x.1 ∨ ∃ k0 y,c.τ k0=some y∧y.1=x.1
theorem Cx.le.refl (c:Cx):c.le c:=⟨fun _ _ _ h=>h,fun _ _ h=>h,fun _ _ h=>h,rfl,rfl,rfl,rfl,fun _ _ h=>.inl h,fun _ _ h=>.inl h⟩
theorem Cx.le.trans {a b c:Cx} (h:a.le b) (h':b.le c):a.le c:=
  ⟨fun _ _ _ x=>h'.K _ _ _ (h.K _ _ _ x),fun _ _ x=>h'.μ _ _ (h.μ _ _ x),fun _ _ x=>h'.τ _ _ (h.τ _ _ x),h'.X.trans h.X,h'.XO.trans h.XO,h'.sz.trans h.sz,h'.FZ.trans h.FZ,
   fun i n x=>by
    rcases h'.μn i n x with y | y
    · exact h.μn i n y
    · exact .inr (h.sz ▸ y),
   fun k x y=>by
    rcases h'.τn k x y with z | z | ⟨k0,u,z,e⟩
    · exact h.τn k x z
    · exact .inr (.inl (h.sz ▸ z))
    · rcases h.τn k0 u z with z' | z' | ⟨k1,u',z',e'⟩
      · exact .inr (.inr ⟨k0,u,z',e⟩)
      · exact .inr (.inl (e ▸ z'))
      · exact .inr (.inr ⟨k1,u',z',e'.trans e⟩)⟩
inductive VRel (c:Cx):AV→Value→Prop where
  | bool (b:Bool):VRel c (.bool b) (.bool b)
  | int (k:IntKind) (n:Int):VRel c (.int k n) (.int k n)
  | str (s:ByteArray):VRel c (.str s) (.string s)
  | nilp:VRel c .nilp (.pointer none)
  | ref (i o n:Nat) (h:c.μ i=some n):VRel c (.ref i o) (.pointer (some ⟨n,o,none⟩))
  | eptr (l:List AV) (o b off:Nat) (vs:Nat→Value) (hk:∀ j,j<l.length→c.K b (off+j)=some (vs j))
      (hr:∀ (j:Nat) (x:AV),l[j]? = some x→VRel c x (vs j)):VRel c (.eptr l o) (.pointer (some ⟨b,off+o,none⟩))
  | slice (l:List AV) (n:Nat) (t:Tail) (b off cap:Nat) (vs:Nat→Value) (hc:n≤cap) (hk:∀ j,j<l.length→c.K b (off+j)=some (vs j))
      (hr:∀ (j:Nat) (x:AV),l[j]? = some x→VRel c x (vs j)) (he:t=.exact→cap=n)
      (ht:∀ k,t=.tok k→0<n∧off=0 ∧ ∃ z,l.length=n * z∧c.τ k=some (b,off+n * z,off+cap * z)):VRel c (.slice l n t) (.slice (some ⟨b,off,none⟩) n cap)
  | sliceNil (t:Tail) (ht:∀ k,t ≠ .tok k):VRel c (.slice [] 0 t) (.slice none 0 0)
  | nilS:VRel c .nilS (.slice none 0 0)
  | sref (i o len cap n cap':Nat) (h:c.μ i=some n) (hc:cap≤cap'):VRel c (.sref i o len cap) (.slice (some ⟨n,o,none⟩) len cap')
  | func (fn:Fn) (f1 c1:List AV) (f2 c2:Array Value) (hl:f1.length=f2.size) (hl':c1.length=c2.size)
      (hf:∀ (j:Nat) (x:AV) (v:Value),f1[j]? = some x→f2[j]? = some v→VRel c x v) (hc:∀ (j:Nat) (x:AV) (v:Value),c1[j]? = some x→c2[j]? = some v→VRel c x v):VRel c (.func fn f1 c1) (.func fn f2 c2)
  | nilFunc:VRel c .nilFunc .nilFunc
  | iface (t:TypeId) (v:AV) (x:Value) (h:VRel c v x):VRel c (.iface t v) (.iface t x)
  | nilIface:VRel c .nilIface .nilIface
  | agg (l:List AV) (vs:Array Value) (hl:l.length=vs.size) (h:∀ (j:Nat) (x:AV) (v:Value),l[j]? = some x→vs[j]? = some v→VRel c x v):VRel c (.agg l) (.agg vs)
  | tuple (l:List AV) (vs:Array Value) (hl:l.length=vs.size) (h:∀ (j:Nat) (x:AV) (v:Value),l[j]? = some x→vs[j]? = some v→VRel c x v):VRel c (.tuple l) (.tuple vs)
  | map (i n:Nat) (h:c.μ i=some n):VRel c (.map i) (.map (some n))
  | nilMap:VRel c .nilMap (.map none)
structure Cx.le3 (c c':Cx):Prop where
  K:∀ b o v,c.K b o=some v→c'.K b o=some v
  μ:∀ i n,c.μ i=some n→c'.μ i=some n
  τ:∀ i n,c.τ i=some n→c'.τ i=some n
theorem VRel.mono3 {c c':Cx} (h:c.le3 c') {v:AV} {x:Value} (r:VRel c v x):VRel c' v x:=by
  induction r with
  | bool b=>exact .bool b
  | int k n=>exact .int k n
  | str s=>exact .str s
  | nilp=>exact .nilp
  | ref i o n hm=>exact .ref i o n (h.μ _ _ hm)
  | eptr l o b off vs hk _ ih=>exact .eptr l o b off vs (fun j hj=>h.K _ _ _ (hk j hj)) ih
  | slice l n t b off cap vs hc hk _ he ht ih =>
    exact .slice l n t b off cap vs hc (fun j hj=>h.K _ _ _ (hk j hj)) ih he (fun k e=>let ⟨h0,hf,z,h1,h2⟩:=ht k e;⟨h0,hf,z,h1,h.τ _ _ h2⟩)
  | sliceNil t ht=>exact .sliceNil t ht
  | nilS=>exact .nilS
  | sref i o len cap n cap' hm hc=>exact .sref i o len cap n cap' (h.μ _ _ hm) hc
  | func fn f1 c1 f2 c2 hl hl' _ _ ih1 ih2=>exact .func fn f1 c1 f2 c2 hl hl' ih1 ih2
  | nilFunc=>exact .nilFunc
  | iface t v x _ ih=>exact .iface t v x ih
  | nilIface=>exact .nilIface
  | agg l vs hl _ ih=>exact .agg l vs hl ih
  | tuple l vs hl _ ih=>exact .tuple l vs hl ih
  | map i n hm=>exact .map i n (h.μ _ _ hm)
  | nilMap=>exact .nilMap
theorem VRel.mono {c c':Cx} (h:c.le c') {v:AV} {x:Value} (r:VRel c v x):VRel c' v x:=r.mono3 ⟨h.K,h.μ,h.τ⟩
def LRel (c:Cx) (l:List AV) (vs:List Value):Prop:=l.length=vs.length ∧ ∀ (j:Nat) (x:AV) (v:Value),l[j]? = some x→vs[j]? = some v→VRel c x v
theorem LRel.mono {c c':Cx} (h:c.le c') {l:List AV} {vs:List Value} (r:LRel c l vs):LRel c' l vs:=
  ⟨r.1,fun j x v h1 h2=>(r.2 j x v h1 h2).mono h⟩
theorem LRel.nil (c:Cx):LRel c [] []:=⟨rfl,by simp⟩
theorem LRel.cons {c:Cx} {x:AV} {v:Value} {l:List AV} {vs:List Value} (h:VRel c x v) (r:LRel c l vs):LRel c (x :: l) (v :: vs):=
  ⟨by simp [r.1],fun j=>by cases j with
    | zero=>intro a b h1 h2;simp at h1 h2;subst h1;subst h2;exact h
    | succ j=>intro a b h1 h2;simp at h1 h2;exact r.2 j a b h1 h2⟩
theorem LRel.tail {c:Cx} {x:AV} {l:List AV} {vs:List Value} (r:LRel c (x :: l) vs):∃ v vs',vs=v :: vs'∧VRel c x v∧LRel c l vs':=by
  cases vs with
  | nil=>simp [LRel] at r
  | cons v vs =>
    refine ⟨v,vs,rfl,r.2 0 x v (by simp) (by simp),by simpa using r.1,fun j a b h1 h2=>r.2 (j+1) a b (by simpa using h1) (by simpa using h2)⟩
theorem LRel.append {c:Cx} {l l':List AV} {vs vs':List Value} (h:LRel c l vs) (h':LRel c l' vs'):LRel c (l ++ l') (vs ++ vs'):=by
  refine ⟨by simp [h.1,h'.1],fun j x v h1 h2 => ?_⟩
  by_cases hj:j<l.length
  · rw [qJ hj] at h1
    rw [qJ (h.1 ▸ hj)] at h2
    exact h.2 j x v h1 h2
  · rw [zY (by omega)] at h1
    rw [zY (by have:=h.1;omega),← h.1] at h2
    exact h'.2 _ x v h1 h2
theorem LRel.drop {c:Cx} {l:List AV} {vs:List Value} (h:LRel c l vs) (n:Nat):LRel c (l.drop n) (vs.drop n):=
  ⟨by simp [h.1],fun j x v h1 h2=>h.2 (n+j) x v (by simpa using h1) (by simpa using h2)⟩
theorem LRel.take {c:Cx} {l:List AV} {vs:List Value} (h:LRel c l vs) (n:Nat):LRel c (l.take n) (vs.take n):=
  ⟨by simp [h.1],fun j x v h1 h2=>by
    rw [List.getElem?_take] at h1 h2
    split at h1
    · rename_i hj;simp only [hj,if_true] at h2;exact h.2 j x v h1 h2
    · simp at h1⟩
theorem LRel.get {c:Cx} {l:List AV} {vs:List Value} (h:LRel c l vs) {j:Nat} {x:AV} (hx:l[j]? = some x):∃ v,vs[j]? = some v∧VRel c x v:=by
  have hj:j<l.length:=by
    rcases zU j l.length with h' | h'
    · exact h'
    · rw [zN h'] at hx;cases hx
  have hj':j<vs.length:=h.1 ▸ hj
  exact ⟨vs[j],zF hj',h.2 j x _ hx (zF hj')⟩
theorem LRel.get_none {c:Cx} {l:List AV} {vs:List Value} (h:LRel c l vs) {j:Nat} (hx:l[j]? = none):vs[j]? = none:=by
  rw [List.getElem?_eq_none_iff] at hx ⊢
  have:=h.1
  omega
theorem LRel.set {c:Cx} {l:List AV} {vs:List Value} (h:LRel c l vs) {x:AV} {v:Value} (hv:VRel c x v) (j:Nat):LRel c (l.set j x) (vs.set j v):=by
  refine ⟨by simp [h.1],fun i a b h1 h2 => ?_⟩
  rw [yC] at h1 h2
  by_cases hij:j=i
  · simp only [hij,if_true] at h1 h2
    split at h1
    · rename_i hlt
      simp only [h.1 ▸ hlt,if_true] at h2
      simp at h1 h2;subst h1;subst h2;exact hv
    · simp at h1
  · simp only [hij,if_false] at h1 h2
    exact h.2 i a b h1 h2
theorem VRel.of_agg {c:Cx} {l:List AV} {x:Value} (h:VRel c (.agg l) x):∃ vs:Array Value,x=.agg vs∧LRel c l vs.toList:=by
  cases h with
  | agg _ vs hl hh=>exact ⟨vs,rfl,by simpa using hl,fun j x v h1 h2=>hh j x v h1 (by simpa using h2)⟩
theorem VRel.mk_agg {c:Cx} {l:List AV} {vs:Array Value} (h:LRel c l vs.toList):VRel c (.agg l) (.agg vs):=
  .agg l vs (by simpa using h.1) (fun j x v h1 h2=>h.2 j x v h1 (by simpa using h2))
theorem VRel.of_tuple {c:Cx} {l:List AV} {x:Value} (h:VRel c (.tuple l) x):∃ vs:Array Value,x=.tuple vs∧LRel c l vs.toList:=by
  cases h with
  | tuple _ vs hl hh=>exact ⟨vs,rfl,by simpa using hl,fun j x v h1 h2=>hh j x v h1 (by simpa using h2)⟩
theorem VRel.mk_tuple {c:Cx} {l:List AV} {vs:Array Value} (h:LRel c l vs.toList):VRel c (.tuple l) (.tuple vs):=
  .tuple l vs (by simpa using h.1) (fun j x v h1 h2=>h.2 j x v h1 (by simpa using h2))
theorem VRel.undef (c:Cx):VRel c .undef Go.undef:=by
  show VRel c (.tuple []) (.tuple #[])
  exact VRel.mk_tuple (LRel.nil c)
theorem VRel.cells {c:Cx} {v:AV} {x:Value} (h:VRel c v x):LRel c v.cells x.cells.toList:=by
  cases h with
  | agg l vs hl hh=>exact ⟨by simpa [AV.cells,Value.cells] using hl,fun j x v h1 h2=>hh j x v h1 (by simpa [Value.cells] using h2)⟩
  | bool b=>exact LRel.cons (.bool b) (LRel.nil c)
  | int k n=>exact LRel.cons (.int k n) (LRel.nil c)
  | str s=>exact LRel.cons (.str s) (LRel.nil c)
  | nilp=>exact LRel.cons .nilp (LRel.nil c)
  | ref i o n hm=>exact LRel.cons (.ref i o n hm) (LRel.nil c)
  | eptr l o b off vs hk hr=>exact LRel.cons (.eptr l o b off vs hk hr) (LRel.nil c)
  | slice l n t b off cap vs h1 h2 h3 h4 h5=>exact LRel.cons (.slice l n t b off cap vs h1 h2 h3 h4 h5) (LRel.nil c)
  | sliceNil t ht=>exact LRel.cons (.sliceNil t ht) (LRel.nil c)
  | nilS=>exact LRel.cons .nilS (LRel.nil c)
  | sref i o len cap n cap' hm hc=>exact LRel.cons (.sref i o len cap n cap' hm hc) (LRel.nil c)
  | func fn f1 c1 f2 c2 hl hl' h1 h2=>exact LRel.cons (.func fn f1 c1 f2 c2 hl hl' h1 h2) (LRel.nil c)
  | nilFunc=>exact LRel.cons .nilFunc (LRel.nil c)
  | iface t v x hh=>exact LRel.cons (.iface t v x hh) (LRel.nil c)
  | nilIface=>exact LRel.cons .nilIface (LRel.nil c)
  | tuple l vs hl hh=>exact LRel.cons (.tuple l vs hl hh) (LRel.nil c)
  | map i n hm=>exact LRel.cons (.map i n hm) (LRel.nil c)
  | nilMap=>exact LRel.cons .nilMap (LRel.nil c)
theorem VRel.oneCell {c:Cx} {v:AV} {x:Value} (h:VRel c v x):x.oneCell'=v.one:=by cases h <;> rfl
def BRel (c:Cx) (n:Nat) (w:World):Blk→Prop
  | .cells l => ∀ (o:Nat) (x:AV),l[o]? = some x→c.K n o=none∧c.X n o=none∧w.frozen? ⟨n,o,none⟩=false ∧ ∃ v,w.cell? ⟨n,o,none⟩=some v∧VRel c x v
  | .map es=>c.XO n=none ∧ ∃ entries clock,w.heap[n]? = some (.map entries clock)∧es.length=entries.size ∧
      ∀ (j:Nat) (kv:AV × AV) (e:MapEntry),es[j]? = some kv→entries[j]? = some e→VRel c kv.1 e.key∧VRel c kv.2 e.val
  | .siter s pos=>c.XO n=none∧w.heap[n]? = some (.stringIter s pos)
  | .loop r=>c.XO n=none∧w.heap[n]? = some (.loop r)
def TRel (c:Cx) (w:World) (b lo hi:Nat):Prop:=
  ∀ o,lo≤o→o<hi→c.K b o=none∧c.X b o=none∧w.frozen? ⟨b,o,none⟩=false ∧ ∃ v,w.cell? ⟨b,o,none⟩=some v
def tabB:Nat:=0
def tabV (i:Nat):Value:=.int .u64 ((10 ^ i:Nat):Int)
structure StRel (c:Cx) (S:St) (w:World):Prop where
  sz:c.sz≤w.heap.size
  tab:∀ i,i<20→c.K tabB i=some (tabV i)
  tsh:∃ t,w.shape? tabB=some (t,20)
  K:∀ b o v,c.K b o=some v→w.cell? ⟨b,o,none⟩=some v
  X:∀ b o v,c.X b o=some v→w.cell? ⟨b,o,none⟩=some v∧w.frozen? ⟨b,o,none⟩=false∧c.K b o=none
  XO:∀ b ob,c.XO b=some ob→w.heap[b]? = some ob ∧ ∀ cs t f,ob ≠ .cells cs t f
  fr:Frm c.FZ.w0 w
  F:∀ b o,c.FZ b o=true→b<w.heap.size∧w.frozen? ⟨b,o,none⟩=false
  dom:∀ i n,c.μ i=some n→i<S.heap.length∧n<w.heap.size
  tdom:∀ k x,c.τ k=some x→k<S.nt∧x.1<w.heap.size
  blk:∀ i B,S.heap[i]? = some (some B) → ∃ n,c.μ i=some n∧BRel c n w B
  inj:∀ i j Bi Bj n,S.heap[i]? = some (some Bi)→S.heap[j]? = some (some Bj)→c.μ i=some n→c.μ j=some n→i=j
  tok:∀ k,k∈S.toks → ∃ b lo hi,c.τ k=some (b,lo,hi)∧TRel c w b lo hi
  tinj:∀ k k' b lo hi lo' hi',k∈S.toks→k'∈S.toks→c.τ k=some (b,lo,hi)→c.τ k'=some (b,lo',hi')→k=k'
  tblk:∀ k i b lo hi B,k∈S.toks→S.heap[i]? = some (some B)→c.τ k=some (b,lo,hi)→c.μ i≠some b
  tfr:∀ k b lo hi,k∈S.toks→c.τ k=some (b,lo,hi) → ∀ o,w.frozen? ⟨b,o,none⟩=false
theorem zAk {w:World} {b o:Nat} {v:Value} (h:w.cell? ⟨b,o,none⟩=some v):b<w.heap.size:=World.block_lt_of_cell? w ⟨b,o,none⟩ h
structure Chg (w w':World) (R:Nat→Nat→Prop) (RO:Nat→Prop):Prop where
  cell:∀ b o v,w.cell? ⟨b,o,none⟩=some v → ¬ R b o→w'.cell? ⟨b,o,none⟩=some v
  sm:∀ b o v,w.cell? ⟨b,o,none⟩=some v → ∃ v',w'.cell? ⟨b,o,none⟩=some v'
  fro:∀ b o,b<w.heap.size→w'.frozen? ⟨b,o,none⟩=w.frozen? ⟨b,o,none⟩
  obj:∀ b ob,w.heap[b]? = some ob→(∀ cs t f,ob ≠ .cells cs t f) → ¬ RO b→w'.heap[b]? = some ob
  size:w.heap.size≤w'.heap.size
  shp:∀ b x,w.shape? b=some x→w'.shape? b=some x
  frm:Frm w w'
theorem Chg.drew (w:World):Chg w w.drew (fun _ _=>False) (fun _=>False):=
  ⟨fun _ _ _ h _=>h,fun _ _ v h=>⟨v,h⟩,fun _ _ _=>rfl,fun _ _ h _ _=>h,zM _,fun _ _ h=>h,⟨rfl,rfl,fun _ cs _ _ h=>⟨cs,h,rfl⟩⟩⟩
theorem Chg.alloc (w:World) (o:Obj):Chg w (w.alloc o) (fun _ _=>False) (fun _=>False):=by
  refine ⟨fun b o' v h _ => ?_,fun b o' v h=>⟨v, ?_⟩,fun b o' h => ?_,fun b ob h _ _ => ?_,by simp,fun b x h => ?_,⟨rfl,rfl,fun b cs t fr h=>⟨cs, ?_,rfl⟩⟩⟩
  · rw [World.cell?_alloc_lt _ _ _ (zAk h)];exact h
  · rw [World.cell?_alloc_lt _ _ _ (zAk h)];exact h
  · exact World.frozen?_alloc_old _ _ _ (Nat.ne_of_lt h)
  · have hb:b<w.heap.size:=by
      rcases zU b w.heap.size with h' | h'
      · exact h'
      · rw [qP h'] at h;cases h
    simp only [World.alloc,Array.getElem?_push]
    rw [if_neg (by omega)];exact h
  · have hb:b<w.heap.size:=by
      rcases zU b w.heap.size with h' | h'
      · exact h'
      · unfold World.shape? at h;rw [qP h'] at h;cases h
    unfold World.shape? at h ⊢
    simp only [World.alloc,Array.getElem?_push]
    rw [if_neg (by omega)];exact h
  · have hb:b<w.heap.size:=(Array.getElem?_eq_some_iff.1 h).1
    simp only [World.alloc,Array.getElem?_push]
    rw [if_neg (by omega)];exact h
theorem Chg.trans {w w1 w2:World} {R R':Nat→Nat→Prop} {RO RO':Nat→Prop} (h:Chg w w1 R RO) (h':Chg w1 w2 R' RO') :
    Chg w w2 (fun b o=>R b o∨R' b o) (fun b=>RO b∨RO' b):=
  ⟨fun b o v x hn=>h'.cell b o v (h.cell b o v x (fun hr=>hn (.inl hr))) (fun hr=>hn (.inr hr)),
   fun b o v x=>let ⟨v1,x1⟩:=h.sm b o v x;h'.sm b o v1 x1,
   fun b o hb=>(h'.fro b o (qL hb h.size)).trans (h.fro b o hb),
   fun b ob x hc hn=>h'.obj b ob (h.obj b ob x hc (fun hr=>hn (.inl hr))) hc (fun hr=>hn (.inr hr)),
   Nat.le_trans h.size h'.size,fun b x e=>h'.shp b x (h.shp b x e),h.frm.trans h'.frm⟩
theorem zDe (b:Nat):∀ (vs:List Value) (o:Nat) (w:World),(w.setCells b o vs).heap.size=w.heap.size
  | [],_,_=>rfl
  | v :: vs,o,w=>by simp only [World.setCells];rw [zDe b vs];simp
theorem heap_setCell_obj (w:World) (a:Addr) (v:Value) (b:Nat) (ob:Obj) (h:w.heap[b]? = some ob) (hn:∀ cs t f,ob ≠ .cells cs t f):(w.setCell a v).heap[b]? = some ob:=by
  simp only [World.setCell,Array.getElem?_modify]
  split
  · rename_i hb;subst hb;rw [h]
    cases ob <;> simp
    rename_i c e f
    exact absurd rfl (hn c e f)
  · exact h
theorem zCu (b':Nat) (b:Nat) (ob:Obj) (hn:∀ cs t f,ob ≠ .cells cs t f):∀ (vs:List Value) (o:Nat) (w:World),w.heap[b]? = some ob→(w.setCells b' o vs).heap[b]? = some ob
  | [],_,_,h=>h
  | v :: vs,o,w,h=>by simp only [World.setCells];exact zCu b' b ob hn vs _ _ (heap_setCell_obj w _ v b ob h hn)
theorem shape_setCell (w:World) (a:Addr) (v:Value) (b:Nat) (x:TypeId × Nat) (h:w.shape? b=some x):(w.setCell a v).shape? b=some x:=by
  unfold World.shape? at h ⊢
  simp only [World.setCell,Array.getElem?_modify]
  by_cases hb:a.block=b
  · subst hb
    rw [if_pos rfl]
    cases hw:w.heap[a.block]? with
    | none=>rw [hw] at h;cases h
    | some ob =>
      rw [hw] at h
      cases ob <;> simp at h ⊢
      split <;> simpa using h
  · rw [if_neg hb];exact h
theorem zDx (b' b:Nat) (x:TypeId × Nat):∀ (vs:List Value) (o:Nat) (w:World),w.shape? b=some x→(w.setCells b' o vs).shape? b=some x
  | [],_,_,h=>h
  | v :: vs,o,w,h=>by simp only [World.setCells];exact zDx b' b x vs _ _ (shape_setCell w _ v b x h)
theorem Frm.setCell (w:World) (a:Addr) (v:Value):Frm w (w.setCell a v):=by
  refine ⟨rfl,rfl,fun i cs t fr h => ?_⟩
  simp only [World.setCell,Array.getElem?_modify]
  by_cases hb:a.block=i
  · rw [if_pos hb,h]
    refine ⟨_,rfl, ?_⟩
    split
    · rfl
    · simp
  · rw [if_neg hb];exact ⟨cs,h,rfl⟩
theorem Frm.setCells (b:Nat):∀ (vs:List Value) (o:Nat) (w:World),Frm w (w.setCells b o vs)
  | [],_,w=>Frm.refl w
  | v :: vs,o,w=>(Frm.setCell w ⟨b,o,none⟩ v).trans (Frm.setCells b vs (o+1) (w.setCell ⟨b,o,none⟩ v))
theorem Chg.setCells (w:World) (b o:Nat) (vs:List Value) (hs:∀ j,j<vs.length→(w.cell? ⟨b,o+j,none⟩).isSome=true) :
    Chg w (w.setCells b o vs) (fun b' o'=>b'=b∧o≤o'∧o'<o+vs.length) (fun _=>False):=by
  refine ⟨fun b' o' v h hn => ?_,fun b' o' v h => ?_,fun b' o' h=>World.frozen?_setCells b vs o w _,fun b' ob h hc _=>zCu b b' ob hc vs o w h,Nat.le_of_eq (zDe b vs o w).symm,fun b' x h=>zDx b b' x vs o w h,Frm.setCells b vs o w⟩
  · rw [World.cell?_setCells_out b vs o w ⟨b',o',none⟩ (fun hb _=>by
      by_cases h1:o'<o
      · exact .inl h1
      · by_cases h2:o'<o+vs.length
        · exact absurd ⟨hb,by omega,h2⟩ hn
        · exact .inr (by show o+vs.length≤o';omega))]
    exact h
  · by_cases hr:b'=b∧o≤o'∧o'<o+vs.length
    · obtain ⟨rfl,h1,h2⟩:=hr
      have:=World.cell?_setCells_in b' vs o w hs (o' - o) (by omega)
      rw [show o+(o' - o)=o' by omega] at this
      exact ⟨_,this⟩
    · refine ⟨v, ?_⟩
      rw [World.cell?_setCells_out b vs o w ⟨b',o',none⟩ (fun hb _=>by
        by_cases h1:o'<o
        · exact .inl h1
        · by_cases h2:o'<o+vs.length
          · exact absurd ⟨hb,by omega,h2⟩ hr
          · exact .inr (by show o+vs.length≤o';omega))]
      exact h
def Blk.has:Blk→Nat→Prop
  | .cells l,o=>o<l.length
  | _,_=>False
def Blk.isObj:Blk→Prop
  | .cells _=>False
  | _=>True
theorem BRel.mono {c c':Cx} (hc:c.le c') {n:Nat} {w:World} {B:Blk} (hK:∀ o,B.has o→c'.K n o=none) (h:BRel c n w B):BRel c' n w B:=by
  cases B with
  | cells l =>
    intro o x hx
    obtain ⟨h1,h2,h3,v,h4,h5⟩:=h o x hx
    have ho:o<l.length:=by
      rcases zU o l.length with h' | h'
      · exact h'
      · rw [zN h'] at hx;cases hx
    exact ⟨hK o ho,hc.X ▸ h2,h3,v,h4,h5.mono hc⟩
  | map es =>
    obtain ⟨h1,en,cl,h2,h3,h4⟩:=h
    exact ⟨hc.XO ▸ h1,en,cl,h2,h3,fun j kv e a b=>let ⟨x,y⟩:=h4 j kv e a b;⟨x.mono hc,y.mono hc⟩⟩
  | siter s pos=>exact ⟨hc.XO ▸ h.1,h.2⟩
  | loop r=>exact ⟨hc.XO ▸ h.1,h.2⟩
theorem BRel.chg {c:Cx} {n:Nat} {w w':World} {R:Nat→Nat→Prop} {RO:Nat→Prop} {B:Blk} (h:BRel c n w B) (g:Chg w w' R RO) (hR:∀ o,B.has o → ¬ R n o) (hRO:B.isObj → ¬ RO n):BRel c n w' B:=by
  cases B with
  | cells l =>
    intro o x hx
    obtain ⟨h1,h2,h3,v,h4,h5⟩:=h o x hx
    have ho:o<l.length:=by
      rcases zU o l.length with h' | h'
      · exact h'
      · rw [zN h'] at hx;cases hx
    exact ⟨h1,h2,(g.fro _ _ (zAk h4)).trans h3,v,g.cell _ _ _ h4 (hR o ho),h5⟩
  | map es =>
    obtain ⟨h1,en,cl,h2,h3,h4⟩:=h
    exact ⟨h1,en,cl,g.obj _ _ h2 (fun _ _ _ e=>by cases e) (hRO trivial),h3,h4⟩
  | siter s pos=>exact ⟨h.1,g.obj _ _ h.2 (fun _ _ _ e=>by cases e) (hRO trivial)⟩
  | loop r=>exact ⟨h.1,g.obj _ _ h.2 (fun _ _ _ e=>by cases e) (hRO trivial)⟩
theorem StRel.chg {c:Cx} {S:St} {w w':World} {R:Nat→Nat→Prop} {RO:Nat→Prop} (h:StRel c S w) (g:Chg w w' R RO)
    (hK:∀ b o,R b o→c.K b o=none∧c.X b o=none) (hX:∀ b,RO b→c.XO b=none)
    (hB:∀ i B n,S.heap[i]? = some (some B)→c.μ i=some n→(∀ o,B.has o → ¬ R n o)∧(B.isObj → ¬ RO n)):StRel c S w' where
  sz:=Nat.le_trans h.sz g.size
  tab:=h.tab
  tsh:=let ⟨t,e⟩:=h.tsh;⟨t,g.shp _ _ e⟩
  fr:=h.fr.trans g.frm
  F:=fun b o e=>⟨qL (h.F b o e).1 g.size,(g.fro b o (h.F b o e).1).trans (h.F b o e).2⟩
  K b o v x:=g.cell b o v (h.K b o v x) (fun hr=>by rw [(hK b o hr).1] at x;cases x)
  X b o v x:=by
    obtain ⟨h1,h2,h3⟩:=h.X b o v x
    exact ⟨g.cell b o v h1 (fun hr=>by rw [(hK b o hr).2] at x;cases x),(g.fro b o (zAk h1)).trans h2,h3⟩
  XO b ob x:=by
    obtain ⟨h1,h2⟩:=h.XO b ob x
    exact ⟨g.obj b ob h1 h2 (fun hr=>by rw [hX b hr] at x;cases x),h2⟩
  dom i n x:=⟨(h.dom i n x).1,qL (h.dom i n x).2 g.size⟩
  tdom k x e:=⟨(h.tdom k x e).1,qL (h.tdom k x e).2 g.size⟩
  blk i B x:=by
    obtain ⟨n,h1,h2⟩:=h.blk i B x
    exact ⟨n,h1,h2.chg g (hB i B n x h1).1 (hB i B n x h1).2⟩
  inj:=h.inj
  tok k hk:=by
    obtain ⟨b,lo,hi,h1,h2⟩:=h.tok k hk
    refine ⟨b,lo,hi,h1,fun o h3 h4 => ?_⟩
    obtain ⟨a1,a2,a3,v,a4⟩:=h2 o h3 h4
    exact ⟨a1,a2,(g.fro b o (zAk a4)).trans a3,g.sm b o v a4⟩
  tinj:=h.tinj
  tblk:=h.tblk
  tfr:=fun k b lo hi hk e o=>(g.fro b o (h.tdom k _ e).2).trans (h.tfr k b lo hi hk e o)
theorem StRel.drew {c:Cx} {S:St} {w:World} (h:StRel c S w):StRel c S w.drew:=
  h.chg (Chg.drew w) (fun _ _ e=>e.elim) (fun _ e=>e.elim) (fun _ _ _ _ _=>⟨fun _ _ e=>e,fun _ e=>e⟩)
theorem StRel.alloc {c:Cx} {S:St} {w:World} (h:StRel c S w) (o:Obj):StRel c S (w.alloc o):=
  h.chg (Chg.alloc w o) (fun _ _ e=>e.elim) (fun _ e=>e.elim) (fun _ _ _ _ _=>⟨fun _ _ e=>e,fun _ e=>e⟩)
def Cx.extK (c:Cx) (w:World) (b lo hi:Nat):Cx:={ c with K:=fun b' o=>if b'=b∧lo≤o∧o<hi then w.cell? ⟨b',o,none⟩ else c.K b' o }
theorem StRel.extK_le {c:Cx} {S:St} {w:World} (h:StRel c S w) (b lo hi:Nat):c.le (c.extK w b lo hi):=
  ⟨fun b' o v e=>by
    show (if b'=b∧lo≤o∧o<hi then w.cell? ⟨b',o,none⟩ else c.K b' o)=some v
    split
    · exact h.K b' o v e
    · exact e,fun _ _ e=>e,fun _ _ e=>e,rfl,rfl,rfl,rfl,fun _ _ e=>.inl e,fun _ _ e=>.inl e⟩
theorem StRel.extK {c:Cx} {S:St} {w:World} (h:StRel c S w) (b lo hi:Nat) (hX:∀ o,lo≤o→o<hi→c.X b o=none)
    (hB:∀ i B,S.heap[i]? = some (some B)→c.μ i=some b → ∀ o,B.has o → ¬ (lo≤o∧o<hi))
    (hT:∀ k lo' hi',k∈S.toks→c.τ k=some (b,lo',hi')→hi≤lo'∨hi'≤lo'):StRel (c.extK w b lo hi) S w where
  sz:=h.sz
  tab i hi':=(h.extK_le b lo hi).K _ _ _ (h.tab i hi')
  tsh:=h.tsh
  fr:=h.fr
  K b' o v x:=by
    simp only [Cx.extK] at x
    split at x
    · exact x
    · exact h.K b' o v x
  X b' o v x:=by
    obtain ⟨h1,h2,h3⟩:=h.X b' o v x
    refine ⟨h1,h2, ?_⟩
    simp only [Cx.extK]
    split
    · rename_i hh
      obtain ⟨rfl,h4,h5⟩:=hh
      have:c.X b' o=none:=hX o h4 h5
      rw [show c.X b' o=some v from x] at this;cases this
    · exact h3
  XO:=h.XO
  F:=h.F
  dom:=h.dom
  tdom:=h.tdom
  blk i B x:=by
    obtain ⟨n,h1,h2⟩:=h.blk i B x
    refine ⟨n,h1,h2.mono (h.extK_le b lo hi) fun o ho => ?_⟩
    simp only [Cx.extK]
    split
    · rename_i hh
      obtain ⟨rfl,h4⟩:=hh
      exact absurd h4 (hB i B x h1 o ho)
    · cases B with
      | cells l =>
        have hlt:o<l.length:=ho
        exact (h2 o l[o] (zF hlt)).1
      | map es=>exact ho.elim
      | siter s pos=>exact ho.elim
      | loop r=>exact ho.elim
  inj:=h.inj
  tok k hk:=by
    obtain ⟨b',lo',hi',h1,h2⟩:=h.tok k hk
    refine ⟨b',lo',hi',h1,fun o h3 h4 => ?_⟩
    obtain ⟨a1,a2⟩:=h2 o h3 h4
    refine ⟨?_,a2⟩
    simp only [Cx.extK]
    split
    · rename_i hh
      obtain ⟨rfl,h5,h6⟩:=hh
      have:=hT k lo' hi' hk h1
      omega
    · exact a1
  tinj:=h.tinj
  tblk:=h.tblk
  tfr:=h.tfr
theorem StRel.toks_sub {c:Cx} {S:St} {w:World} (h:StRel c S w) (T:List Nat) (hT:∀ k∈T,k∈S.toks):StRel c { S with toks:=T } w:=
  { h with
    tok:=fun k hk=>h.tok k (hT k hk)
    tinj:=fun k k' b lo hi lo' hi' hk hk'=>h.tinj k k' b lo hi lo' hi' (hT k hk) (hT k' hk')
    tblk:=fun k i b lo hi B hk=>h.tblk k i b lo hi B (hT k hk)
    tfr:=fun k b lo hi hk=>h.tfr k b lo hi (hT k hk) }
def updN {α:Type} (f:Nat→Option α) (k:Nat) (x:α):Nat→Option α:=fun j=>if j=k then some x else f j
theorem updN_le {α:Type} {f:Nat→Option α} {k:Nat} {x:α} (h:f k=none):∀ i n,f i=some n→updN f k x i=some n:=by
  intro i n e
  unfold updN
  split
  · rename_i hi;subst hi;rw [h] at e;cases e
  · exact e
theorem StRel.addTok {c:Cx} {S:St} {w:World} (h:StRel c S w) (k b lo hi:Nat) (hk:c.τ k=none) (hb:b<w.heap.size) (hfz:∀ o,w.frozen? ⟨b,o,none⟩=false) (ht:TRel c w b lo hi)
    (h1:∀ k' x,k'∈S.toks→c.τ k'=some x→x.1≠b) (h2:∀ i B,S.heap[i]? = some (some B)→c.μ i≠some b) (nt:Nat) (hnt:S.nt≤nt) (hkn:k<nt) (hsz:c.sz≤b ∨ ∃ k0 y,c.τ k0=some y∧y.1=b) :
    c.le { c with τ:=updN c.τ k (b,lo,hi) }∧StRel { c with τ:=updN c.τ k (b,lo,hi) } { S with toks:=k :: S.toks,nt:=nt } w:=by
  have hle:c.le { c with τ:=updN c.τ k (b,lo,hi) }:=⟨fun _ _ _ e=>e,fun _ _ e=>e,updN_le hk,rfl,rfl,rfl,rfl,fun _ _ e=>.inl e,fun k' x e=>by
    simp only [updN] at e
    split at e
    · simp only [yT] at e;subst e;exact .inr hsz
    · exact .inl e⟩
  have hnew:∀ k'∈S.toks,k'≠k:=by
    intro k' hk' e
    obtain ⟨b',lo',hi',h3,_⟩:=h.tok k' hk'
    rw [e,hk] at h3;cases h3
  refine ⟨hle, ?_⟩
  exact {
    sz:=h.sz,tab:=h.tab,tsh:=h.tsh,fr:=h.fr,K:=h.K,X:=h.X,XO:=h.XO,F:=h.F,dom:=h.dom
    tdom:=fun k' x e=>by
      simp only [updN] at e
      split at e
      · rename_i e';subst e';cases e;exact ⟨hkn,hb⟩
      · exact ⟨qL (h.tdom k' x e).1 hnt,(h.tdom k' x e).2⟩
    blk:=fun i B x=>by
      obtain ⟨n,a1,a2⟩:=h.blk i B x
      refine ⟨n,a1,a2.mono hle fun o ho => ?_⟩
      cases B with
      | cells l=>exact (a2 o l[o] (zF ho)).1
      | map es=>exact ho.elim
      | siter s pos=>exact ho.elim
      | loop r=>exact ho.elim
    inj:=h.inj
    tok := fun k' hk'=>by
      rcases List.mem_cons.1 hk' with rfl | hk''
      · exact ⟨b,lo,hi,by simp [updN],ht⟩
      · obtain ⟨b',lo',hi',a1,a2⟩:=h.tok k' hk''
        refine ⟨b',lo',hi', ?_,a2⟩
        simp only [updN,if_neg (hnew k' hk'')];exact a1
    tinj:=fun k1 k2 b' l1 u1 l2 u2 m1 m2 e1 e2=>by
      simp only [updN] at e1 e2
      rcases List.mem_cons.1 m1 with rfl | m1'
      · rcases List.mem_cons.1 m2 with rfl | m2'
        · rfl
        · rw [if_neg (hnew k2 m2')] at e2
          simp at e1
          exact absurd e1.1.symm (h1 k2 _ m2' e2)
      · rw [if_neg (hnew k1 m1')] at e1
        rcases List.mem_cons.1 m2 with rfl | m2'
        · simp at e2
          exact absurd e2.1.symm (h1 k1 _ m1' e1)
        · rw [if_neg (hnew k2 m2')] at e2
          exact h.tinj k1 k2 b' l1 u1 l2 u2 m1' m2' e1 e2
    tblk:=fun k' i b' l1 u1 B m e1 e2=>by
      simp only [updN] at e2
      rcases List.mem_cons.1 m with rfl | m'
      · simp at e2;rw [← e2.1];exact h2 i B e1
      · rw [if_neg (hnew k' m')] at e2
        exact h.tblk k' i b' l1 u1 B m' e1 e2
    tfr := fun k' b' l1 u1 m e o=>by
      simp only [updN] at e
      rcases List.mem_cons.1 m with rfl | m'
      · simp at e
        obtain ⟨rfl,_,_⟩:=e
        exact hfz o
      · rw [if_neg (hnew k' m')] at e
        exact h.tfr k' b' l1 u1 m' e o }
def St.clear (S:St) (i:Nat):St:={ S with heap:=S.heap.set i none }
theorem zAt {S:St} {i j:Nat} {B:Blk} (h:(S.clear i).heap[j]? = some (some B)):j≠i∧S.heap[j]? = some (some B):=by
  simp only [St.clear,yC] at h
  split at h
  · split at h <;> simp at h
  · rename_i hne;exact ⟨fun e=>hne e.symm,h⟩
theorem StRel.clear {c:Cx} {S:St} {w:World} (h:StRel c S w) (i:Nat):StRel c (S.clear i) w:=
  { h with
    dom:=fun j n e=>by have:=h.dom j n e;simpa [St.clear] using this
    blk:=fun j B x=>h.blk j B (zAt x).2
    inj:=fun j j' B B' n x x'=>h.inj j j' B B' n (zAt x).2 (zAt x').2
    tblk:=fun k j b lo hi B m x=>h.tblk k j b lo hi B m (zAt x).2 }
def St.put (S:St) (i:Nat) (B:Blk):St:={ S with heap:=(S.heap ++ List.replicate (i+1 - S.heap.length) none).set i (some B) }
theorem get_put {S:St} {i j:Nat} {B B':Blk} (h:(S.put i B).heap[j]? = some (some B')):(j=i∧B'=B)∨(j≠i∧S.heap[j]? = some (some B')):=by
  simp only [St.put,yC] at h
  split at h
  · rename_i hij
    split at h
    · simp at h;exact .inl ⟨hij.symm,h.symm⟩
    · simp at h
  · rename_i hne
    refine .inr ⟨fun e=>hne e.symm, ?_⟩
    rw [List.getElem?_append] at h
    split at h
    · exact h
    · rw [yD] at h
      split at h <;> simp at h
theorem length_put (S:St) (i:Nat) (B:Blk):S.heap.length≤(S.put i B).heap.length∧i<(S.put i B).heap.length:=by
  simp only [St.put,List.length_set,qC,List.length_replicate]
  omega
theorem StRel.put {c:Cx} {S:St} {w:World} (h:StRel c S w) (i n:Nat) (B:Blk) (hi:∀ B',S.heap[i]? ≠ some (some B')) (hm:c.μ i=some n) (hb:BRel c n w B)
    (h1:∀ j B',S.heap[j]? = some (some B')→c.μ j≠some n) (h2:∀ k x,k∈S.toks→c.τ k=some x→x.1≠n):StRel c (S.put i B) w:=
  { h with
    dom:=fun j m e=>⟨qL (h.dom j m e).1 (length_put S i B).1,(h.dom j m e).2⟩
    blk:=fun j B' x=>by
      rcases get_put x with ⟨rfl,rfl⟩ | ⟨_,x'⟩
      · exact ⟨n,hm,hb⟩
      · exact h.blk j B' x'
    inj := fun j j' Bj Bj' m x x' e e'=>by
      rcases get_put x with ⟨rfl,rfl⟩ | ⟨_,y⟩
      · rcases get_put x' with ⟨rfl,rfl⟩ | ⟨_,y'⟩
        · rfl
        · rw [hm] at e;cases e;exact absurd e' (h1 j' Bj' y')
      · rcases get_put x' with ⟨rfl,rfl⟩ | ⟨_,y'⟩
        · rw [hm] at e';cases e';exact absurd e (h1 j Bj y)
        · exact h.inj j j' Bj Bj' m y y' e e'
    tblk:=fun k j b lo hi' B' m x e=>by
      rcases get_put x with ⟨rfl,rfl⟩ | ⟨_,y⟩
      · rw [hm];intro e';cases e';exact h2 k _ m e rfl
      · exact h.tblk k j b lo hi' B' m y e }
theorem StRel.name {c:Cx} {S:St} {w:World} (h:StRel c S w) (i n:Nat) (hm:c.μ i=none) (hi:i<S.heap.length) (hl:∀ B,S.heap[i]? ≠ some (some B)) (hn:n<w.heap.size) (hsz:c.sz≤n) :
    c.le { c with μ:=updN c.μ i n }∧StRel { c with μ:=updN c.μ i n } S w:=by
  have hle:c.le { c with μ:=updN c.μ i n }:=⟨fun _ _ _ e=>e,updN_le hm,fun _ _ e=>e,rfl,rfl,rfl,rfl,fun j m e=>by
    simp only [updN] at e
    split at e
    · simp only [yT] at e;subst e;exact .inr hsz
    · exact .inl e,fun _ _ e=>.inl e⟩
  refine ⟨hle, ?_⟩
  have back:∀ j B m,S.heap[j]? = some (some B)→updN c.μ i n j=some m→c.μ j=some m:=by
    intro j B m x e
    simp only [updN] at e
    split at e
    · rename_i e';subst e';exact absurd x (hl B)
    · exact e
  exact { h with
    dom:=fun j m e=>by
      simp only [updN] at e
      split at e
      · rename_i e';subst e';cases e;exact ⟨hi,hn⟩
      · exact h.dom j m e
    blk:=fun j B x=>by
      obtain ⟨m,a1,a2⟩:=h.blk j B x
      refine ⟨m,updN_le hm _ _ a1,a2.mono hle fun o ho => ?_⟩
      cases B with
      | cells l=>exact (a2 o l[o] (zF ho)).1
      | map es=>exact ho.elim
      | siter s pos=>exact ho.elim
      | loop r=>exact ho.elim
    inj:=fun j j' B B' m x x' e e'=>h.inj j j' B B' m x x' (back j B m x e) (back j' B' m x' e')
    tok:=fun k hk=>h.tok k hk
    tblk:=fun k j b lo hi' B mm x e e'=>h.tblk k j b lo hi' B mm x e (back j B b x e') }
theorem StRel.room {c:Cx} {S:St} {w:World} (h:StRel c S w) (m:Nat):StRel c { S with heap:=S.heap ++ List.replicate m none } w:=by
  have back:∀ (j:Nat) (B:Blk),(S.heap ++ List.replicate m none)[j]? = some (some B)→S.heap[j]? = some (some B):=by
    intro j B x
    rw [List.getElem?_append] at x
    split at x
    · exact x
    · rw [yD] at x
      split at x <;> simp at x
  exact { h with
    dom:=fun j n e=>⟨by have:=(h.dom j n e).1;simp;omega,(h.dom j n e).2⟩
    blk:=fun j B x=>h.blk j B (back j B x)
    inj:=fun j j' B B' n x x'=>h.inj j j' B B' n (back j B x) (back j' B' x')
    tblk:=fun k j b lo hi B mm x=>h.tblk k j b lo hi B mm (back j B x) }
structure TI where
 desc:TypeDesc
 size:Nat
 bytes:Nat
 zero:List AV
 plain:Bool
abbrev Tab:=TypeId→Option TI
def aggD:TypeDesc→Bool
 | .struct _ | .array _ _=>true
 | _=>false
def AV.atom:Value→Option AV
 | .bool b=>some (.bool b)
 | .int k n=>some (.int k n)
 | .string s=>some (.str s)
 | .pointer none=>some .nilp
 | .slice none 0 0=>some .nilS
 | .map none=>some .nilMap
 | .nilFunc=>some .nilFunc
 | .nilIface=>some .nilIface
 | _=>none
def AV.atoms:List Value→Option (List AV)
 | []=>some []
 | v :: vs=>match AV.atom v,AV.atoms vs with
  | some x,some xs=>some (x :: xs)
  | _,_=>none
def AV.ofVal:Value→Option AV
 | .agg cs=>(AV.atoms cs.toList).map .agg
 | .tuple cs=>(AV.atoms cs.toList).map .tuple
 | .iface t v=>(AV.atom v).map (.iface t)
 | v=>AV.atom v
theorem VRel.of_atom (c:Cx) {v:Value} {x:AV} (h:AV.atom v=some x):VRel c x v:=by
 unfold AV.atom at h
 split at h <;> simp at h <;> subst h
 ·exact .bool _
 ·exact .int _ _
 ·exact .str _
 ·exact .nilp
 ·exact .nilS
 ·exact .nilMap
 ·exact .nilFunc
 ·exact .nilIface
theorem LRel.of_atoms (c:Cx):∀ {vs:List Value} {xs:List AV},AV.atoms vs=some xs→LRel c xs vs
 | [],xs,h=>by simp [AV.atoms] at h;subst h;exact LRel.nil c
 | v :: vs,xs,h=>by
  simp only [AV.atoms] at h
  split at h
  ·rename_i x ys h1 h2;simp at h;subst h;exact LRel.cons (VRel.of_atom c h1) (LRel.of_atoms c h2)
  ·simp at h
theorem VRel.of_val (c:Cx) {v:Value} {x:AV} (h:AV.ofVal v=some x):VRel c x v:=by
 unfold AV.ofVal at h
 split at h
 ·simp only [zK] at h
  obtain ⟨l,h1,rfl⟩:=h
  exact VRel.mk_agg (LRel.of_atoms c h1)
 ·simp only [zK] at h
  obtain ⟨l,h1,rfl⟩:=h
  exact VRel.mk_tuple (LRel.of_atoms c h1)
 ·simp only [zK] at h
  obtain ⟨l,h1,rfl⟩:=h
  exact .iface _ _ _ (VRel.of_atom c h1)
 ·exact VRel.of_atom c h
def zeroA (i:TI):AV:=if aggD i.desc then .agg i.zero else i.zero.headD .undef
structure TOk (P:Program) (t:TypeId) (i:TI):Prop where
 und:P.underlying t=some i.desc
 info0:∃ inf z,P.info? t=some inf∧inf.size=i.size∧inf.bytes=i.bytes∧inf.zero=some z∧AV.ofVal z=some (zeroA i)
 shape:(zeroA i).cells=i.zero∧i.zero.length=i.size∧i.zero.all AV.one=true∧(aggD i.desc=false→i.size=1)
 plain:i.plain=true→P.stoodInHeld t=false∧P.eqGuardType P.depth t=false
theorem TOk.info {P:Program} {t:TypeId} {i:TI} (h:TOk P t i):∃ inf z,P.info? t=some inf∧inf.size=i.size∧inf.bytes=i.bytes∧inf.zero=some z∧z.cells.size=i.size∧(∀ c,LRel c i.zero z.cells.toList)∧(∀ x∈z.cells.toList,x.oneCell'=true)∧(aggD i.desc=false→i.size=1):=by
 obtain ⟨inf,z,h1,h2,h3,h4,h5⟩:=h.info0
 obtain ⟨s1,s2,s3,s4⟩:=h.shape
 have hl:∀ c,LRel c i.zero z.cells.toList:=fun c=>by rw [← s1];exact (VRel.of_val c h5).cells
 let c0:Cx:=⟨fun _ _=>none,fun _=>none,fun _=>none,fun _ _=>none,fun _=>none,0,⟨fun _ _=>false,default⟩⟩
 refine ⟨inf,z,h1,h2,h3,h4, ?_,hl,fun x hx => ?_,s4⟩
 ·have:=(hl c0).1;simp at this;omega
 ·obtain ⟨j,hj,rfl⟩:=List.mem_iff_getElem.1 hx
  have hj':j<i.zero.length:=by rw [(hl c0).1];exact hj
  rw [((hl c0).2 j i.zero[j] _ (zF hj') (zF hj)).oneCell]
  exact List.all_eq_true.1 s3 _ (qB hj')
theorem TOk.zeroV {P:Program} {t:TypeId} {i:TI} (h:TOk P t i) (w:World):∃ z,(zeroValue t).run P w=.ok z w ∧ ∀ c,VRel c (zeroA i) z:=by
 obtain ⟨inf,z,h1,h2,h3,h4,h5⟩:=h.info0
 exact ⟨z,by simp [zeroValue,typeInfo,h1,h4],fun c=>VRel.of_val c h5⟩
def Tab.Ok (P:Program) (T:Tab):Prop:=∀ t i,T t=some i→TOk P t i
theorem TOk.sizeOf {P:Program} {t:TypeId} {i:TI} (h:TOk P t i) (w:World):(sizeOf t).run P w=.ok i.size w:=by
 obtain ⟨inf,z,h1,h2,_⟩:=h.info
 simp [Go.sizeOf,typeInfo,h1,h2]
theorem TOk.isAgg {P:Program} {t:TypeId} {i:TI} (h:TOk P t i) (w:World):(isAgg t).run P w=.ok (aggD i.desc) w:=by
 simp only [Go.isAgg,yV,run_underlying h.und,yU]
 unfold aggD
 cases i.desc <;> rfl
theorem TOk.zero {P:Program} {t:TypeId} {i:TI} (h:TOk P t i) (w:World):∃ z,(zeroValue t).run P w=.ok z w∧z.cells.size=i.size∧(∀ c,LRel c i.zero z.cells.toList)∧(∀ x∈z.cells.toList,x.oneCell'=true):=by
 obtain ⟨inf,z,h1,h2,h3,h4,h5,h6,h7,_⟩:=h.info
 exact ⟨z,by simp [zeroValue,typeInfo,h1,h4],h5,h6,h7⟩
abbrev TS:=List (Nat × AV)
def TS.get:TS→Nat→Option AV
 | [],_=>none
 | (k,v) :: l,d=>if k=d then some v else TS.get l d
def TS.set:TS→Nat→AV→TS
 | [],d,x=>[(d,x)]
 | (k,v) :: l,d,x=>if k=d then (d,x) :: l else (k,v) :: TS.set l d x
def TS.keep (ks:List Nat):TS→TS
 | []=>[]
 | (k,v) :: l=>if ks.contains k then (k,v) :: TS.keep ks l else TS.keep ks l
theorem TS.get_set (ts:TS) (d d':Nat) (x:AV):(ts.set d x).get d'=if d=d' then some x else ts.get d':=by
 induction ts with
 | nil=>simp [TS.set,TS.get]
 | cons p l ih =>
  obtain ⟨k,v⟩:=p
  simp only [TS.set]
  by_cases h:k=d
  ·subst h
   simp only [if_true,TS.get]
   by_cases h2:k=d' <;> simp [h2]
  ·simp only [if_neg h,TS.get,ih]
   by_cases h2:k=d'
   ·subst h2;simp [Ne.symm h]
   ·simp [h2]
theorem TS.get_keep (ks:List Nat) (ts:TS) (d:Nat):(ts.keep ks).get d=if ks.contains d then ts.get d else none:=by
 induction ts with
 | nil=>simp [TS.keep,TS.get]
 | cons p l ih =>
  obtain ⟨k,x⟩:=p
  simp only [TS.keep]
  by_cases hk:ks.contains k=true
  ·simp only [hk,if_true,TS.get,ih]
   by_cases h2:k=d
   ·subst h2;simp only [if_true,hk]
   ·simp only [if_neg h2]
  ·simp only [hk,if_false,zS,ih,TS.get]
   by_cases h2:k=d
   ·subst h2;simp only [hk,if_false,zS]
   ·simp only [if_neg h2]
def aeval (ts:TS):Operand→Option AV
 | .tmp t=>ts.get t
 | .const v=>AV.ofVal v
 | .func f=>some (.func (.func f) [] [])
 | .global _=>none
def TsRel (c:Cx) (ts:TS) (tmps:Array Value):Prop:=∀ d v,ts.get d=some v→VRel c v (tmps.getD d Go.undef)
theorem LRel.getD {c:Cx} {l:List AV} {vs:List Value} (h:LRel c l vs) (j:Nat):VRel c (l.getD j .undef) (vs.getD j Go.undef):=by
 rw [zG,zG]
 cases hx:l[j]? with
 | none=>rw [h.get_none hx];exact VRel.undef c
 | some x=>obtain ⟨v,h1,h2⟩:=h.get hx;rw [h1];exact h2
theorem zAh {c:Cx} {ts:TS} {a:Act} (h:TsRel c ts a.tmps) {o:Operand} {v:AV} (e:aeval ts o=some v):VRel c v (a.eval o):=by
 cases o with
 | tmp t=>exact h t v e
 | const v=>exact VRel.of_val c e
 | func f=>simp only [aeval,yT] at e;subst e;exact .func _ _ _ _ _ rfl rfl (by simp) (by simp)
 | global g=>simp [aeval] at e
inductive Res where
 | pure (v:AV)
 | alloc (B:Blk) (mk:Nat→AV)
 | tok (kill:Option Nat) (mk:Nat→AV)
 | write (i:Nat) (B:Blk) (v:AV)
def Res.ok (S:St):Res→Prop
 | .tok (some k) _=>k∈S.toks
 | _=>True
def killTok (T:List Nat):Option Nat→List Nat
 | none=>T
 | some k=>T.filter (· != k)
def Post (c:Cx) (S:St):Res→Value→World→Prop
 | .pure av,v,w' => ∃ c',c.le c'∧c'.μ=c.μ∧c'.τ=c.τ∧StRel c' S w'∧VRel c' av v
 | .alloc B mk,v,w' => ∀ i,c.μ i=none→(∀ B',S.heap[i]? ≠ some (some B')) → ∃ c',c.le c'∧(∀ j,j≠i→c'.μ j=c.μ j)∧c'.τ=c.τ∧StRel c' (S.put i B) w'∧VRel c' (mk i) v
 | .tok kill mk,v,w' => ∀ j,c.τ j=none → ∃ c',c.le c'∧c'.μ=c.μ∧(∀ j',j'≠j→c'.τ j'=c.τ j')∧StRel c' { S with toks:=j :: killTok S.toks kill,nt:=max S.nt (j+1) } w'∧VRel c' (mk j) v
 | .write i B av,v,w' => ∃ c',c.le c'∧c'.μ=c.μ∧c'.τ=c.τ∧StRel c' (S.put i B) w'∧VRel c' av v
theorem Post.same {c:Cx} {S:St} {w:World} (h:StRel c S w) {av:AV} {v:Value} (hv:VRel c av v):Post c S (.pure av) v w:=
 ⟨c,Cx.le.refl c,rfl,rfl,h,hv⟩
def rd (i:TI) (l:List AV) (o:Nat):Option AV:=
 if aggD i.desc then (if o+i.size≤l.length then some (.agg ((l.drop o).take i.size)) else none) else l[o]?
def loadA (T:Tab) (S:St) (t:TypeId) (p:AV):Option AV:=
 match T t,p with
 | some i,.ref b o=>match S.heap[b]? with
  | some (some (.cells l))=>rd i l o
  | _=>none
 | some i,.eptr l o=>rd i l o
 | _,_=>none
theorem run_rd {P:Program} {t:TypeId} {i:TI} (hT:TOk P t i) {c:Cx} {w:World} {l:List AV} {b off o:Nat} {vs:Nat→Value}
  (hc:∀ j,j<l.length→w.cell? ⟨b,off+j,none⟩=some (vs j)) (hr:∀ (j:Nat) (x:AV),l[j]? = some x→VRel c x (vs j)) {v:AV} (h:rd i l o=some v) :
  ∃ x,(loadVar t ⟨b,off+o,none⟩).run P w=.ok x w∧VRel c v x:=by
 unfold rd at h
 split at h
 ·rename_i ha
  split at h
  ·rename_i hlen
   simp only [yT] at h
   subst h
   refine ⟨.agg ((List.range i.size).map fun j=>vs (o+j)).toArray, ?_, ?_⟩
   ·simp only [loadVar,yV,hT.isAgg,yU,ha,if_true,hT.sizeOf]
    rw [run_loadCells w ⟨b,off+o,none⟩ i.size (fun j=>vs (o+j)) (fun j hj=>by rw [Addr.add_lit,Nat.add_assoc];exact hc (o+j) (by omega))]
    rfl
   ·refine VRel.mk_agg ⟨by simp;omega,fun j x u h1 h2 => ?_⟩
    rw [List.getElem?_take] at h1
    split at h1
    ·rename_i hj
     rw [List.getElem?_drop] at h1
     simp only [qK,qR hj,zX,yT] at h2
     subst h2
     exact hr (o+j) x h1
    ·cases h1
  ·cases h
 ·rename_i ha
  have ha':aggD i.desc=false:=by simpa using ha
  have ho:o<l.length:=by
   rcases zU o l.length with h' | h'
   ·exact h'
   ·rw [zN h'] at h;cases h
  refine ⟨vs o, ?_,hr o v h⟩
  simp only [loadVar,yV,hT.isAgg,yU,ha',zS,if_false,run_load,hc o ho]
theorem zEg {c:Cx} {S:St} {w:World} (h:StRel c S w) {b n:Nat} {l:List AV} (hb:S.heap[b]? = some (some (.cells l))) (hn:c.μ b=some n) :
  ∃ vs:Nat→Value,(∀ j,j<l.length→w.cell? ⟨n,j,none⟩=some (vs j))∧(∀ (j:Nat) (x:AV),l[j]? = some x→VRel c x (vs j)) ∧
   (∀ j,j<l.length→c.K n j=none∧c.X n j=none∧w.frozen? ⟨n,j,none⟩=false):=by
 obtain ⟨n',h1,h2⟩:=h.blk b _ hb
 rw [hn] at h1;cases h1
 have key:∀ j (hj:j<l.length),c.K n j=none∧c.X n j=none∧w.frozen? ⟨n,j,none⟩=false ∧ ∃ v,w.cell? ⟨n,j,none⟩=some v∧VRel c l[j] v:=
  fun j hj=>h2 j l[j] (zF hj)
 refine ⟨fun j=>(w.cell? ⟨n,j,none⟩).getD Go.undef,fun j hj => ?_,fun j x hx => ?_,fun j hj => ?_⟩
 ·obtain ⟨_,_,_,v,h3,_⟩:=key j hj
  simp only [h3,qD]
 ·have hj:j<l.length:=by
   rcases zU j l.length with h' | h'
   ·exact h'
   ·rw [zN h'] at hx;cases hx
  obtain ⟨_,_,_,v,h3,h4⟩:=key j hj
  rw [zF hj] at hx;cases hx
  simp only [h3,qD];exact h4
 ·obtain ⟨h3,h4,h5,_⟩:=key j hj
  exact ⟨h3,h4,h5⟩
theorem loadA_ok {P:Program} {T:Tab} (hT:T.Ok P) {c:Cx} {S:St} {w:World} (h:StRel c S w) {t:TypeId} {p v:AV} {x:Value} (hp:VRel c p x) (e:loadA T S t p=some v) :
  ∃ u,(Instr.loadAt t x).run P w=.ok u w∧VRel c v u:=by
 unfold loadA at e
 split at e
 ·rename_i i b o ht
  split at e
  ·rename_i l hb
   cases hp with
   | ref _ _ n hn =>
    obtain ⟨vs,h1,h2,_⟩:=zEg h hb hn
    obtain ⟨u,h3,h4⟩:=run_rd (hT t i ht) (off:=0) (by simpa using h1) h2 e
    refine ⟨u, ?_,h4⟩
    simpa [Instr.loadAt,Instr.sureAddr] using h3
  ·cases e
 ·rename_i i l o ht
  cases hp with
  | eptr _ _ b off vs hk hr =>
   obtain ⟨u,h3,h4⟩:=run_rd (hT t i ht) (fun j hj=>h.K _ _ _ (hk j hj)) hr e
   exact ⟨u,by simpa [Instr.loadAt,Instr.sureAddr] using h3,h4⟩
 ·cases e
def splice (l:List AV) (o:Nat):List AV→List AV
 | []=>l
 | v :: vs=>splice (l.set o v) (o+1) vs
def storeA (T:Tab) (S:St) (t:TypeId) (p v:AV):Option Res:=
 match T t,p with
 | some i,.ref b o=>match S.heap[b]? with
  | some (some (.cells l))=>if v.cells.length=i.size∧o+i.size≤l.length∧v.cells.all AV.one then some (.write b (.cells (splice l o v.cells)) .undef) else none
  | _=>none
 | _,_=>none
theorem get_splice (vs:List AV):∀ (l:List AV) (o:Nat),o+vs.length≤l.length → ∀ j,(splice l o vs)[j]? = if o≤j∧j<o+vs.length then vs[j - o]? else l[j]?:=by
 induction vs with
 | nil=>intro l o _ j;simp only [splice,qE,Nat.add_zero];rw [if_neg (by omega)]
 | cons v vs ih =>
  intro l o hl j
  simp only [zW] at hl
  simp only [splice,zW]
  rw [ih (l.set o v) (o+1) (by simp;omega) j,yC]
  by_cases h1:o+1≤j∧j<o+1+vs.length
  ·rw [if_pos h1,if_pos (by omega),show j - o=(j - (o+1))+1 by omega,List.getElem?_cons_succ]
  ·rw [if_neg h1]
   by_cases h2:o=j
   ·subst h2
    rw [if_pos rfl,if_pos (by omega),if_pos (by omega),Nat.sub_self];rfl
   ·rw [if_neg h2,if_neg (by omega)]
theorem store_ok {P:Program} {T:Tab} (hT:T.Ok P) {c:Cx} {S:St} {w:World} (h:StRel c S w) {t:TypeId} {p v:AV} {x y:Value} {r:Res} (hp:VRel c p x) (hv:VRel c v y) (e:storeA T S t p v=some r) :
  ∃ w',(Instr.storeAt t x y).run P w=.ok () w'∧Post c S r Go.undef w':=by
 unfold storeA at e
 split at e
 ·rename_i i b o ht
  split at e
  ·rename_i l hb
   split at e
   ·rename_i hcond
    obtain ⟨hlen,hol,hone⟩:=hcond
    simp only [yT] at e
    subst e
    cases hp with
    | ref _ _ n hn =>
     obtain ⟨vs,h1,h2,h3⟩:=zEg h hb hn
     have hcl:=hv.cells
     have hy:y.cells.size=i.size:=by have:=hcl.1;simp at this;omega
     have hsome:∀ j,j<y.cells.toList.length→(w.cell? ⟨n,o+j,none⟩).isSome=true:=by
      intro j hj
      rw [h1 (o+j) (by simp at hj;omega)];rfl
     have hfz:∀ j,j<y.cells.toList.length→w.frozen? ⟨n,o+0+j,none⟩=false:=by
      intro j hj
      rw [Nat.add_zero]
      exact (h3 (o+j) (by simp at hj;omega)).2.2
     have h1c:∀ u∈y.cells.toList,u.oneCell'=true:=by
      intro u hu
      obtain ⟨j,hj,rfl⟩:=List.mem_iff_getElem.1 hu
      have hj':j<v.cells.length:=by rw [hcl.1];exact hj
      have hr:=hcl.2 j v.cells[j] _ (zF hj') (zF hj)
      rw [hr.oneCell]
      exact List.all_eq_true.1 hone _ (qB hj')
     have hst:=run_storeCells_cells (P:=P) n o y.cells.toList 0 w (by simpa using hsome) hfz h1c
     simp only [Nat.add_zero] at hst
     refine ⟨w.setCells n o y.cells.toList, ?_, ?_⟩
     ·show (Instr.storeAt t (.pointer (some ⟨n,o,none⟩)) y).run P w=_
      simp only [Instr.storeAt,Instr.sureAddr,yV,yW,yU,storeVar,(hT t i ht).sizeOf,hy]
      simp only [ne_eq,not_true_eq_false,if_false,yV,yW,yU]
      exact hst
     ·have hS:=(h.clear b).chg (Chg.setCells w n o y.cells.toList hsome) (fun b' o' hr=>by
       obtain ⟨rfl,hr1,hr2⟩:=hr
       have:=h3 o' (by simp at hr2;omega)
       exact ⟨this.1,this.2.1⟩) (fun _ e=>e.elim) (fun i' B n' hB hm=>⟨fun o' ho' hr=>by
        obtain ⟨hne,hB'⟩:=zAt hB
        exact hne (h.inj i' b B _ n hB' hb (hr.1 ▸ hm) hn),fun _ e=>e⟩)
      refine ⟨c,Cx.le.refl c,rfl,rfl, ?_,VRel.undef c⟩
      have hput:=hS.put b n (.cells (splice l o v.cells)) (fun B' hB'=>(zAt hB').1 rfl) hn ?_ (fun j B' hB' hm=>(zAt hB').1 (h.inj j b B' _ n (zAt hB').2 hb hm hn))
       (fun k x hk hx=>fun e=>by
        obtain ⟨x1,x2,x3⟩:=x
        simp only at e;subst e
        exact h.tblk k b _ _ _ _ hk hb hx hn)
      ·have:(S.clear b).put b (.cells (splice l o v.cells))=S.put b (.cells (splice l o v.cells)):=by
        have hlt:b<S.heap.length:=by
         rcases zU b S.heap.length with h' | h'
         ·exact h'
         ·rw [zN h'] at hb;cases hb
        simp only [St.clear,St.put,List.length_set]
        rw [show b+1 - S.heap.length=0 by omega]
        simp
       rw [this] at hput
       exact hput
      ·intro j u hu
       rw [get_splice _ _ _ (by omega)] at hu
       by_cases hr:o≤j∧j<o+v.cells.length
       ·rw [if_pos hr] at hu
        obtain ⟨z,hz,hz2⟩:=hcl.get hu
        have hz':j - o<y.cells.toList.length:=by rw [← hcl.1];omega
        have hin:=World.cell?_setCells_in n y.cells.toList o w hsome (j - o) hz'
        rw [show o+(j - o)=j by omega] at hin
        rw [zF hz'] at hz
        have hjl:=h3 j (by omega)
        exact ⟨hjl.1,hjl.2.1,(World.frozen?_setCells n _ o w _).trans hjl.2.2,_,hin,by cases hz;exact hz2⟩
       ·rw [if_neg hr] at hu
        have hj:j<l.length:=by
         rcases zU j l.length with h' | h'
         ·exact h'
         ·rw [zN h'] at hu;cases hu
        have hjl:=h3 j hj
        refine ⟨hjl.1,hjl.2.1,(World.frozen?_setCells n _ o w _).trans hjl.2.2,vs j, ?_,h2 j u hu⟩
        rw [World.cell?_setCells_out n _ o w ⟨n,j,none⟩ (fun _ _=>by
         have:=hcl.1
         show j<o∨o+y.cells.toList.length≤j
         omega)]
        exact h1 j hj
   ·cases e
  ·cases e
 ·cases e
end Go.Av
end
