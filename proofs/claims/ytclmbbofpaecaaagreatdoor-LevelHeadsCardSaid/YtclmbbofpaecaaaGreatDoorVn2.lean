/- Part 2 of the proof. -/
import Derived.Test.YtclmbbofpaecaaaGreatDoorVn1
import Derived.Laws.MakeOwn
set_option linter.all false
set_option linter.unusedVariables false
set_option linter.unusedSimpArgs false
set_option linter.unusedSectionVars false
open Array renaming getElem?_eq_none → qP
open Bool renaming false_eq_true → zS, not_true → zV, not_false → qF
open List renaming getElem?_eq_getElem → zF, getD_eq_getElem?_getD → zG, getElem?_eq_none → zN, length_append → qC, getElem?_map → qK, getElem?_range → qR, getElem?_replicate → yD
open Nat renaming le_refl → zM, lt_or_ge → zU, zero_le → qG
open Option renaming map_eq_some_iff → zK, bind_eq_some_iff → zQ, map_some → zX, getD_some → qD
open Option.some renaming injEq → yT
open Go.Result renaming andThen_ok → yU
open Go.Sem renaming run_bind → yV
open Go.Sem renaming run_pure → yW
section
namespace Go.Av
open Go
theorem put_room (S:St) (i:Nat) (B:Blk):St.put { S with heap:=S.heap ++ List.replicate (i+1 - S.heap.length) none } i B=S.put i B:=by
 simp only [St.put,qC,List.length_replicate]
 rw [show i+1 - (S.heap.length+(i+1 - S.heap.length))=0 by omega]
 simp
theorem zBp {S:St} {m i:Nat} {B:Blk} (h:(S.heap ++ List.replicate m none)[i]? = some (some B)):S.heap[i]? = some (some B):=by
 rw [List.getElem?_append] at h
 split at h
 ·exact h
 ·rw [yD] at h
  split at h <;> simp at h
theorem Post.newBlk {c:Cx} {S:St} {w:World} (h:StRel c S w) (ob:Obj) {B:Blk} {mk:Nat→AV} {v:Value}
  (hb:∀ c',c.le c'→(∀ o,c'.K w.heap.size o=none)→c'.X=c.X→BRel c' w.heap.size (w.alloc ob) B) (hv:∀ c' i,c.le c'→c'.μ i=some w.heap.size→VRel c' (mk i) v):Post c S (.alloc B mk) v (w.alloc ob):=by
 intro i hi hl
 have h1:=h.alloc ob
 have h2:=h1.room (i+1 - S.heap.length)
 obtain ⟨hle,h3⟩:=h2.name i w.heap.size hi (by simp;omega) (fun B hB=>hl B (zBp hB)) (by simp) h.sz
 have hK:∀ o,c.K w.heap.size o=none:=by
  intro o
  cases hk:c.K w.heap.size o with
  | none=>rfl
  | some u=>exact absurd (zAk (h.K _ _ _ hk)) (by omega)
 refine ⟨_,hle,fun j hj=>by simp [updN,hj],rfl, ?_,hv _ i hle (by simp [updN])⟩
 rw [← put_room]
 refine h3.put i w.heap.size B (fun B' hB=>hl B' (zBp hB)) (by simp [updN]) (hb _ hle hK rfl) (fun j B' hB hm => ?_) (fun k x hk hx hxn => ?_)
 ·simp only [updN] at hm
  split at hm
  ·rename_i e;subst e;exact hl B' (zBp hB)
  ·exact absurd (h.dom _ _ hm).2 (by omega)
 ·have:=(h.tdom k x hx).2
  omega
theorem X_new {c:Cx} {S:St} {w:World} (h:StRel c S w) (o:Nat):c.X w.heap.size o=none:=by
 cases hk:c.X w.heap.size o with
 | none=>rfl
 | some u=>exact absurd (zAk (h.X _ _ _ hk).1) (by omega)
theorem XO_new {c:Cx} {S:St} {w:World} (h:StRel c S w):c.XO w.heap.size=none:=by
 cases hk:c.XO w.heap.size with
 | none=>rfl
 | some u=>have:=(h.XO _ _ hk).1;rw [qP (zM _)] at this;cases this
theorem Post.newCells {c:Cx} {S:St} {w:World} (h:StRel c S w) {l:List AV} {arr:Array Value} (t:TypeId) (hl:LRel c l arr.toList) {mk:Nat→AV} {v:Value}
  (hv:∀ c' i,c.le c'→c'.μ i=some w.heap.size→VRel c' (mk i) v):Post c S (.alloc (.cells l) mk) v (w.alloc (.cells arr t)):=by
 refine Post.newBlk h _ (fun c' hc hK hX o x hx => ?_) hv
 obtain ⟨u,hu,hr⟩:=hl.get hx
 refine ⟨hK o,by rw [hX];exact X_new h o,by simp,u, ?_,hr.mono hc⟩
 rw [World.cell?_alloc_new]
 simpa using hu
theorem Post.newImm {c:Cx} {S:St} {w:World} (h:StRel c S w) {l:List AV} {arr:Array Value} (t:TypeId) (hl:LRel c l arr.toList) (n:Nat) :
  Post c S (.pure (.slice l n .exact)) (.slice (some ⟨w.heap.size,0,none⟩) n n) (w.alloc (.cells arr t)):=by
 have h1:=h.alloc (.cells arr t)
 have hle:=h1.extK_le w.heap.size 0 l.length
 refine ⟨_,hle,rfl,rfl,h1.extK w.heap.size 0 l.length (fun o _ _=>X_new h o) (fun i B hB hm=>absurd (h.dom _ _ hm).2 (by omega)) (fun k lo' hi' _ ht=>absurd (h.tdom _ _ ht).2 (by simp)), ?_⟩
 refine .slice l n .exact w.heap.size 0 n (fun j=>arr.toList.getD j Go.undef) (zM _) (fun j hj => ?_) (fun j x hx => ?_) (fun _=>rfl) (fun k e=>by cases e)
 ·have hj':j<arr.toList.length:=hl.1 ▸ hj
  show (if w.heap.size=w.heap.size∧0≤0+j∧0+j<l.length then (w.alloc (.cells arr t)).cell? ⟨w.heap.size,0+j,none⟩ else c.K w.heap.size (0+j))=_
  rw [if_pos ⟨rfl,by omega,by omega⟩,World.cell?_alloc_new,Nat.zero_add]
  rw [zG,zF hj',qD]
  simp at hj' ⊢
 ·obtain ⟨u,hu,hr⟩:=hl.get hx
  rw [zG,hu]
  exact hr.mono hle
def allocA (T:Tab) (t:TypeId):Option Res:=(T t).map fun i=>.alloc (.cells i.zero) (.ref · 0)
theorem alloc_ok {P:Program} {T:Tab} (hT:T.Ok P) {c:Cx} {S:St} {w:World} (h:StRel c S w) {t:TypeId} {r:Res} (e:allocA T t=some r) :
  ∃ v w',(Instr.alloc t true (.tuple #[])).run P w=.ok v w'∧Post c S r v w':=by
 simp only [allocA,zK] at e
 obtain ⟨i,hi,rfl⟩:=e
 obtain ⟨z,hz,_,hr,_⟩:=(hT t i hi).zero w
 refine ⟨.pointer (some ⟨w.heap.size,0,none⟩),w.alloc (.cells z.cells t), ?_,Post.newCells h t (hr c) (fun c' j hc hm=>.ref j 0 _ hm)⟩
 simp [Instr.alloc,hz,newVar,newRow]
def boxA (v:AV):Res:=.alloc (.cells v.cells) (.ref · 0)
theorem box_ok {P:Program} {c:Cx} {S:St} {w:World} (h:StRel c S w) (t:TypeId) {v:AV} {x:Value} (hv:VRel c v x) :
  ∃ u w',(Instr.box t x).run P w=.ok u w'∧Post c S (boxA v) u w':=by
 refine ⟨.pointer (some ⟨w.heap.size,0,none⟩),w.alloc (.cells x.cells t), ?_,Post.newCells h t hv.cells (fun c' j hc hm=>.ref j 0 _ hm)⟩
 simp [Instr.box,newVar,newRow]
def fillA (place:Nat→Option (Nat × Nat)) (cells:List AV):List (Nat × AV)→Option (List AV)
 | []=>some cells
 | (i,v) :: rest =>
  match place i with
  | none=>none
  | some (off,size)=>if v.cells.length=size∧off+size≤cells.length then fillA place (splice cells off v.cells) rest else none
theorem foldl_splice {c:Cx} (off:Nat):∀ (vs:List AV) (us:List Value) (k:Nat) (l:List AV) (arr:Array Value),LRel c vs us→LRel c l arr.toList →
  LRel c (splice l (off+k) vs) ((us.zipIdx k).foldl (fun (cs:Array Value) p=>cs.setIfInBounds (off+p.2) p.1) arr).toList:=by
 intro vs
 induction vs with
 | nil=>intro us k l arr h hl;have:=h.1;cases us with
  | nil=>exact hl
  | cons=>simp at this
 | cons v vs ih =>
  intro us k l arr h hl
  obtain ⟨u,us',rfl,hu,hus⟩:=h.tail
  simp only [splice,List.zipIdx_cons,List.foldl_cons]
  rw [Nat.add_assoc]
  exact ih us' (k+1) _ _ hus (by simpa using hl.set hu (off+k))
def PRel (c:Cx):List (Nat × AV)→List (Nat × Value)→Prop
 | [],[]=>True
 | (i,v) :: l,(j,x) :: l'=>i=j∧VRel c v x∧PRel c l l'
 | _,_=>False
theorem fill_ok {c:Cx} (place:Nat→Option (Nat × Nat)):∀ (ps:List (Nat × AV)) (qs:List (Nat × Value)) (l:List AV) (arr:Array Value) (l':List AV),PRel c ps qs→LRel c l arr.toList→fillA place l ps=some l' →
  ∃ arr',Instr.fill place arr qs=some arr'∧LRel c l' arr'.toList:=by
 intro ps
 induction ps with
 | nil=>intro qs l arr l' h hl e;cases qs with
  | nil=>simp only [fillA,yT] at e;subst e;exact ⟨arr,rfl,hl⟩
  | cons=>exact h.elim
 | cons p ps ih =>
  intro qs l arr l' h hl e
  obtain ⟨i,v⟩:=p
  cases qs with
  | nil=>exact h.elim
  | cons q qs =>
   obtain ⟨j,x⟩:=q
   obtain ⟨rfl,hv,hps⟩:=h
   simp only [fillA] at e
   simp only [Instr.fill]
   split at e
   ·cases e
   ·rename_i off size hp
    split at e
    ·rename_i hc
     have hcl:=hv.cells
     have hs:x.cells.size=size:=by have:=hcl.1;simp at this;omega
     have hle:¬ (off+x.cells.size > arr.size):=by have:=hl.1;simp at this;omega
     simp only [hp,hs,ne_eq,not_true_eq_false,decide_false,Bool.false_or]
     rw [hs] at hle
     rw [if_neg (by simpa using hle)]
     have:=foldl_splice off v.cells x.cells.toList 0 l arr hcl hl
     simp only [Nat.add_zero] at this
     refine ih qs _ _ l' hps ?_ e
     rw [← Array.foldl_toList,Array.toList_zipIdx]
     exact this
    ·cases e
def placesA (T:Tab):List Field→Option (List (Nat × Nat))
 | []=>some []
 | f :: fs=>match T f.type,placesA T fs with
  | some i,some l=>some ((f.offset,i.size) :: l)
  | _,_=>none
def buildA (T:Tab) (t:TypeId) (ps:List (Nat × AV)):Option AV:=
 match T t with
 | some i =>
  match i.desc with
  | .struct fs=>match placesA T fs.toList with
   | some pl=>(fillA (fun j=>pl[j]?) i.zero ps).map .agg
   | none=>none
  | .array _ e=>match T e with
   | some ie=>(fillA (fun j=>some (j * ie.size,ie.size)) i.zero ps).map .agg
   | none=>none
  | _=>none
 | none=>none
theorem places_ok {P:Program} {T:Tab} (hT:T.Ok P) (w:World):∀ (fs:List Field) (l:List (Nat × Nat)),placesA T fs=some l→(fs.mapM fun f=>do pure (f.offset,← sizeOf f.type):Sem (List (Nat × Nat))).run P w=.ok l w
 | [],l,e=>by simp only [placesA,yT] at e;subst e;rfl
 | f :: fs,l,e=>by
  simp only [placesA] at e
  split at e
  ·rename_i i l' h1 h2
   simp only [yT] at e;subst e
   have ih:=places_ok hT w fs l' h2
   simp only [List.mapM_cons,yV,(hT _ _ h1).sizeOf,yU,yW,ih]
  ·cases e
theorem build_ok {P:Program} {T:Tab} (hT:T.Ok P) {c:Cx} {S:St} {w:World} (h:StRel c S w) {t:TypeId} {ps:List (Nat × AV)} {qs:Array (Nat × Value)} {v:AV} (hp:PRel c ps qs.toList) (e:buildA T t ps=some v) :
  ∃ x,(Instr.build t qs).run P w=.ok x w∧VRel c v x:=by
 unfold buildA at e
 split at e
 ·rename_i i hi
  obtain ⟨z,hz,_,hr,_⟩:=(hT t i hi).zero w
  split at e
  ·rename_i fs hd
   split at e
   ·rename_i pl hpl
    simp only [zK] at e
    obtain ⟨l,hl,rfl⟩:=e
    obtain ⟨arr,h1,h2⟩:=fill_ok (c:=c) (fun j=>pl[j]?) ps qs.toList _ z.cells l hp (hr c) hl
    refine ⟨.agg arr, ?_,VRel.mk_agg h2⟩
    have hu:P.underlying t=some (.struct fs):=hd ▸ (hT t i hi).und
    have hm:=places_ok hT w fs.toList pl hpl
    simp only [Instr.build,yV,hz,yU,run_underlying hu]
    rw [← Array.toArray_toList (xs:=fs),List.mapM_toArray]
    simp only [Sem.run_map,hm,yU]
    simp only [List.getElem?_toArray,h1,yW]
   ·cases e
  ·rename_i len el hd
   split at e
   ·rename_i ie hie
    simp only [zK] at e
    obtain ⟨l,hl,rfl⟩:=e
    obtain ⟨arr,h1,h2⟩:=fill_ok (c:=c) (fun j=>some (j * ie.size,ie.size)) ps qs.toList _ z.cells l hp (hr c) hl
    refine ⟨.agg arr, ?_,VRel.mk_agg h2⟩
    have hu:P.underlying t=some (.array len el):=hd ▸ (hT t i hi).und
    simp only [Instr.build,yV,hz,yU,run_underlying hu,(hT _ _ hie).sizeOf,h1,yW]
   ·cases e
  ·cases e
 ·cases e
def zAe (T:Tab) (t:TypeId) (len:Nat) (ps:List (Nat × AV)):Option AV:=
 match T t with
 | some i =>
  match i.desc with
  | .slice e=>match T e with
   | some ie=>if len * ie.size≤2 ^ 24 then (fillA (fun j=>some (j * ie.size,ie.size)) ((List.range (len * ie.size)).map fun j=>ie.zero.getD (j % ie.zero.length) .undef) ps).map (fun l=>.slice l len .exact) else none
   | none=>none
  | _=>none
 | none=>none
theorem zeros_rel {c:Cx} {l:List AV} {arr:Array Value} (h:LRel c l arr.toList) (n:Nat) (hn:n≠0→0<l.length) :
  LRel c ((List.range n).map fun j=>l.getD (j % l.length) .undef) ((Array.range n).map (arr[· % arr.size]!)).toList:=by
 refine ⟨by simp,fun j x v h1 h2 => ?_⟩
 have hlen:l.length=arr.size:=by simpa using h.1
 have hj:j<n:=by
  rcases zU j n with h' | h'
  ·exact h'
  ·rw [zN (by simpa using h')] at h1;cases h1
 simp only [qK,qR hj,zX,yT] at h1
 simp [hj] at h2
 subst h1
 subst h2
 have:=h.getD (j % l.length)
 have hlt:j % arr.size<arr.size:=Nat.mod_lt _ (by have:=hn (by omega);omega)
 rw [hlen] at this ⊢
 rw [zG (l:=arr.toList)] at this
 simpa [hlt,getElem!_pos] using this
theorem buildSlice_ok {P:Program} {T:Tab} (hT:T.Ok P) {c:Cx} {S:St} {w:World} (h:StRel c S w) {t:TypeId} {len:Nat} {ps:List (Nat × AV)} {qs:Array (Nat × Value)} {v:AV} (hp:PRel c ps qs.toList) (e:zAe T t len ps=some v) :
  ∃ x w',(Instr.buildSlice t len qs).run P w=.ok x w'∧Post c S (.pure v) x w':=by
 unfold zAe at e
 split at e
 ·rename_i i hi
  split at e
  ·rename_i el hd
   split at e
   ·rename_i ie hie
    split at e
    ·rename_i hlim
     simp only [zK] at e
     obtain ⟨l,hl,rfl⟩:=e
     have hu:P.underlying t=some (.slice el):=hd ▸ (hT t i hi).und
     obtain ⟨z,hz,hzs,hr,_⟩:=(hT _ _ hie).zero w
     have hlim':¬ (len * ie.size > 16777216):=by simpa using hlim
     by_cases h0:len * ie.size=0
     ·rw [h0] at hl
      obtain ⟨arr,h1,h2⟩:=fill_ok (c:=c) (fun j=>some (j * ie.size,ie.size)) ps qs.toList [] #[] l hp (by simpa using LRel.nil c) (by simpa using hl)
      refine ⟨_,_, ?_,Post.newImm h el h2 len⟩
      have h00:Array.range 0=#[]:=rfl
      simp [Instr.buildSlice,run_underlying hu,(hT _ _ hie).sizeOf,h0,h00,h1,newRow]
     ·obtain ⟨arr,h1,h2⟩:=fill_ok (c:=c) (fun j=>some (j * ie.size,ie.size)) ps qs.toList _ _ l hp (zeros_rel (hr c) (len * ie.size) (fun _=>by
       have:=(hr c).1;simp at this;rw [this,hzs]
       rcases Nat.eq_zero_or_pos ie.size with h' | h'
       ·rw [h'] at h0;simp at h0
       ·exact h')) hl
      refine ⟨_,_, ?_,Post.newImm h el h2 len⟩
      simp [Instr.buildSlice,run_underlying hu,(hT _ _ hie).sizeOf,hlim',h0,hz,newRow]
      rw [h1]
      rfl
    ·cases e
   ·cases e
  ·cases e
 ·cases e
def zAb (T:Tab) (s:TypeId) (p:AV) (f:Nat):Option AV:=
 match T s with
 | some i=>match i.desc with
  | .struct fs=>match fs[f]? with
   | some fl=>match T fl.type with
    | some fi=>if fi.size=0 then none else match p with
     | .ref b o=>some (.ref b (o+fl.offset))
     | .eptr l o=>some (.eptr l (o+fl.offset))
     | _=>none
    | none=>none
   | none=>none
  | _=>none
 | none=>none
theorem fieldAddr_ok {P:Program} {T:Tab} (hT:T.Ok P) {c:Cx} {w:World} {s:TypeId} {p v:AV} {f:Nat} {x:Value} (hp:VRel c p x) (e:zAb T s p f=some v) :
  ∃ u,(Instr.fieldAt s x f).run P w=.ok u w∧VRel c v u:=by
 unfold zAb at e
 split at e
 ·rename_i i hi
  split at e
  ·rename_i fs hd
   have hu:P.underlying s=some (.struct fs):=hd ▸ (hT s i hi).und
   split at e
   ·rename_i fl hf
    split at e
    ·rename_i fi hfi
     split at e
     ·cases e
     ·rename_i hsz
      have hb:=beq_eq_false_iff_ne.2 hsz
      split at e
      ·simp only [yT] at e;subst e
       cases hp with
       | ref b o n hm =>
        refine ⟨_, ?_,.ref _ _ n hm⟩
        simp only [Instr.fieldAt,yV,run_underlying hu,yU,hf,Instr.sureAddr,yW,fieldPlace,(hT _ _ hfi).sizeOf,hsz,if_false,Addr.add_lit]
      ·rename_i l o
       simp only [yT] at e;subst e
       cases hp with
       | eptr _ _ b off vs hk hr =>
        refine ⟨.pointer (some ⟨b,off+(o+fl.offset),none⟩), ?_,.eptr l _ b off vs hk hr⟩
        simp only [Instr.fieldAt,yV,run_underlying hu,yU,hf,Instr.sureAddr,yW,fieldPlace,(hT _ _ hfi).sizeOf,hsz,if_false,Addr.add_lit,Nat.add_assoc]
      ·cases e
    ·cases e
   ·cases e
  ·cases e
 ·cases e
def partA (T:Tab) (t:TypeId) (l:List AV) (o:Nat):Option AV:=
 match T t with
 | some i=>rd i l o
 | none=>none
theorem part_ok {P:Program} {T:Tab} (hT:T.Ok P) {c:Cx} {w:World} {t:TypeId} {l:List AV} {cs:Array Value} {o:Nat} {v:AV} (hl:LRel c l cs.toList) (e:partA T t l o=some v) :
  ∃ u,(part t cs o).run P w=.ok u w∧VRel c v u:=by
 unfold partA at e
 split at e
 ·rename_i i hi
  unfold rd at e
  simp only [part,yV,(hT _ _ hi).isAgg,yU]
  split at e
  ·rename_i ha
   split at e
   ·rename_i hlen
    simp only [yT] at e;subst e
    simp only [ha,if_true,yV,(hT _ _ hi).sizeOf,yU,yW]
    refine ⟨_,rfl,VRel.mk_agg ?_⟩
    have:=(hl.drop o).take i.size
    simpa [Array.toList_extract,List.extract_eq_take_drop] using this
   ·cases e
  ·rename_i ha
   simp only [ha,if_false,zS]
   obtain ⟨u,h1,h2⟩:=hl.get e
   have h1':cs[o]? = some u:=by simpa using h1
   exact ⟨u,by simp [h1'],h2⟩
 ·cases e
def fieldA (T:Tab) (t:TypeId) (v:AV) (f:Nat):Option AV:=
 match T t,v with
 | some i,.agg l=>match i.desc with
  | .struct fs=>match fs[f]? with
   | some fl=>partA T fl.type l fl.offset
   | none=>none
  | _=>none
 | _,_=>none
theorem field_ok {P:Program} {T:Tab} (hT:T.Ok P) {c:Cx} {w:World} {t:TypeId} {p v:AV} {f:Nat} {x:Value} (hp:VRel c p x) (e:fieldA T t p f=some v) :
  ∃ u,(Instr.field t x f).run P w=.ok u w∧VRel c v u:=by
 unfold fieldA at e
 split at e
 ·rename_i i l hi
  split at e
  ·rename_i fs hd
   have hu:P.underlying t=some (.struct fs):=hd ▸ (hT t i hi).und
   split at e
   ·rename_i fl hf
    obtain ⟨cs,rfl,hl⟩:=hp.of_agg
    obtain ⟨u,h1,h2⟩:=part_ok hT (w:=w) hl e
    refine ⟨u, ?_,h2⟩
    simp only [Instr.field,yV,run_underlying hu,yU,hf,asAgg,yW,h1]
   ·cases e
  ·cases e
 ·cases e
def zAo (T:Tab) (t:TypeId) (x ix:AV):Option AV:=
 match T t,ix with
 | some ti,.int _ i =>
  match ti.desc with
  | .slice e=>match T e with
   | some ei=>match x with
    | .slice l n _=>if 0≤i∧i<n then some (.eptr l (i.toNat * ei.size)) else none
    | .sref b o n _=>if 0≤i∧i<n then some (.ref b (o+i.toNat * ei.size)) else none
    | _=>none
   | none=>none
  | .array n e=>match T e with
   | some ei=>if 0≤i∧i<n then match x with
    | .ref b o=>some (.ref b (o+i.toNat * ei.size))
    | .eptr l o=>some (.eptr l (o+i.toNat * ei.size))
    | _=>none else none
   | none=>none
  | _=>none
 | _,_=>none
theorem indexAddr_ok {P:Program} {T:Tab} (hT:T.Ok P) {c:Cx} {w:World} {t:TypeId} {p ix v:AV} {x y:Value} (hp:VRel c p x) (hix:VRel c ix y) (e:zAo T t p ix=some v) :
  ∃ u,(Instr.indexAt t x y).run P w=.ok u w∧VRel c v u:=by
 unfold zAo at e
 split at e
 ·rename_i ti k i hi
  cases hix
  split at e
  ·rename_i el hd
   have hu:P.underlying t=some (.slice el):=hd ▸ (hT t ti hi).und
   split at e
   ·rename_i ei hei
    split at e
    ·rename_i l n tl
     split at e
     ·rename_i hb
      simp only [yT] at e;subst e
      cases hp with
      | slice _ _ _ b off cap vs hc hk hr he ht =>
       refine ⟨.pointer (some ⟨b,off+i.toNat * ei.size,none⟩), ?_,.eptr l _ b off vs hk hr⟩
       simp only [Instr.indexAt,asIntOf,yV,yW,yU,run_underlying hu,hb,and_self,if_true,(hT _ _ hei).sizeOf,Addr.add_lit]
      | sliceNil=>omega
     ·cases e
    ·split at e
     ·rename_i hb
      simp only [yT] at e;subst e
      cases hp with
      | sref b o len cap n cap' hm hc' =>
       refine ⟨_, ?_,.ref _ _ n hm⟩
       simp only [Instr.indexAt,asIntOf,yV,yW,yU,run_underlying hu,hb,and_self,if_true,(hT _ _ hei).sizeOf,Addr.add_lit]
     ·cases e
    ·cases e
   ·cases e
  ·rename_i n el hd
   have hu:P.underlying t=some (.array n el):=hd ▸ (hT t ti hi).und
   split at e
   ·rename_i ei hei
    split at e
    ·rename_i hb
     split at e
     ·simp only [yT] at e;subst e
      cases hp with
      | ref b o n' hm =>
       refine ⟨_, ?_,.ref _ _ n' hm⟩
       simp only [Instr.indexAt,asIntOf,yV,yW,yU,run_underlying hu,Instr.sureAddr,hb,and_self,if_true,(hT _ _ hei).sizeOf,Addr.add_lit]
     ·rename_i l o
      simp only [yT] at e;subst e
      cases hp with
      | eptr _ _ b off vs hk hr =>
       refine ⟨.pointer (some ⟨b,off+(o+i.toNat * ei.size),none⟩), ?_,.eptr l _ b off vs hk hr⟩
       simp only [Instr.indexAt,asIntOf,yV,yW,yU,run_underlying hu,Instr.sureAddr,hb,and_self,if_true,(hT _ _ hei).sizeOf,Addr.add_lit,Nat.add_assoc]
     ·cases e
    ·cases e
   ·cases e
  ·cases e
 ·cases e
def indexA (T:Tab) (t:TypeId) (x ix:AV):Option AV:=
 match T t,ix with
 | some ti,.int _ i =>
  match ti.desc,x with
  | .array n e,.agg l=>match T e with
   | some ei=>if 0≤i∧i<n then partA T e l (i.toNat * ei.size) else none
   | none=>none
  | .string,.str s=>if 0≤i then (s[i.toNat]?).map (fun b=>.int .u8 b.toNat) else none
  | _,_=>none
 | _,_=>none
theorem index_ok {P:Program} {T:Tab} (hT:T.Ok P) {c:Cx} {w:World} {t:TypeId} {p ix v:AV} {x y:Value} (hp:VRel c p x) (hix:VRel c ix y) (e:indexA T t p ix=some v) :
  ∃ u,(Instr.index t x y).run P w=.ok u w∧VRel c v u:=by
 unfold indexA at e
 split at e
 ·rename_i ti k i hi
  cases hix
  split at e
  ·rename_i n el l hd
   have hu:P.underlying t=some (.array n el):=hd ▸ (hT t ti hi).und
   split at e
   ·rename_i ei hei
    split at e
    ·rename_i hb
     obtain ⟨cs,rfl,hl⟩:=hp.of_agg
     obtain ⟨u,h1,h2⟩:=part_ok hT (w:=w) hl e
     refine ⟨u, ?_,h2⟩
     simp only [Instr.index,asIntOf,yV,yW,yU,run_underlying hu,hb,and_self,if_true,(hT _ _ hei).sizeOf,h1]
    ·cases e
   ·cases e
  ·rename_i s hd
   have hu:P.underlying t=some .string:=hd ▸ (hT t ti hi).und
   cases hp
   split at e
   ·rename_i hb
    simp only [zK] at e
    obtain ⟨b,hs,rfl⟩:=e
    refine ⟨.int .u8 b.toNat, ?_,.int _ _⟩
    simp only [Instr.index,asIntOf,yV,yW,yU,run_underlying hu,hb,if_true,hs]
   ·cases e
  ·cases e
 ·cases e
def descOf (T:Tab) (t:TypeId):Option TypeDesc:=
 match T t with
 | some i=>some i.desc
 | none=>none
theorem zAm {P:Program} {T:Tab} (hT:T.Ok P) {t:TypeId} {d:TypeDesc} (h:descOf T t=some d):P.underlying t=some d:=by
 unfold descOf at h
 split at h
 ·rename_i i hi;simp only [yT] at h;subst h;exact (hT t i hi).und
 ·cases h
def intOp (op:BinOp) (k:IntKind) (a b:Int):Option AV:=
 match op with
 | .add=>some (.int k (k.wrap (a+b)))
 | .sub=>some (.int k (k.wrap (a - b)))
 | .mul=>some (.int k (k.wrap (a * b)))
 | .quo=>if b=0 then none else some (.int k (k.wrap (a.tdiv b)))
 | .rem=>if b=0 then none else some (.int k (a.tmod b))
 | .eql=>some (.bool (a == b))
 | .neq=>some (.bool (a != b))
 | .lss=>some (.bool (decide (a<b)))
 | .leq=>some (.bool (decide (a≤b)))
 | .gtr=>some (.bool (decide (a > b)))
 | .geq=>some (.bool (decide (a ≥ b)))
 | .and=>some (.int k (k.wrap (BitVec.ofInt k.bits a &&& BitVec.ofInt k.bits b).toNat))
 | .shr=>if b<0 then none else some (.int k (a.fdiv (2 ^ (min b.toNat k.bits))))
 | .shl=>if b<0 then none else some (.int k (k.wrap (a * 2 ^ (min b.toNat k.bits))))
 | _=>none
def strOp (op:BinOp) (x y:ByteArray):Option AV:=
 match op with
 | .add=>if x.size+y.size≤4611686018427387904 then some (.str (x ++ y)) else none
 | .eql=>some (.bool (x.toList == y.toList))
 | .neq=>some (.bool !(x.toList == y.toList))
 | .lss=>some (.bool (Op.bytesLess x.toList y.toList))
 | .leq=>some (.bool (Op.bytesLess x.toList y.toList || x.toList == y.toList))
 | .gtr=>some (.bool !(Op.bytesLess x.toList y.toList || x.toList == y.toList))
 | .geq=>some (.bool !(Op.bytesLess x.toList y.toList))
 | _=>none
def eqFlds (T:Tab) (xs ys:List AV):List Field→Option Bool
 | []=>some true
 | f :: fs =>
  if f.name ≠ "_" then
   match descOf T f.type,xs[f.offset]?,ys[f.offset]? with
   | some (.int _),some (.int k a),some (.int k' b)=>if k=k' then (if a == b then eqFlds T xs ys fs else some false) else none
   | some .bool,some (.bool a),some (.bool b)=>if a == b then eqFlds T xs ys fs else some false
   | some .string,some (.str a),some (.str b)=>if a.toList == b.toList then eqFlds T xs ys fs else some false
   | _,_,_=>none
  else eqFlds T xs ys fs
def eqA (T:Tab) (t:TypeId) (x y:AV):Option Bool:=
 match T t with
 | some i =>
  match i.desc,x,y with
  | .bool,.bool a,.bool b=>some (a == b)
  | .slice _,.nilS,.nilS=>some true
  | .slice _,.slice _ n _,.nilS=>if 0<n then some false else none
  | .slice _,.nilS,.slice _ n _=>if 0<n then some false else none
  | .slice _,.sref _ _ _ _,.nilS=>some false
  | .slice _,.nilS,.sref _ _ _ _=>some false
  | .interface ms,.nilIface,.nilIface=>if ms.isEmpty=true then some true else none
  | .interface _,.iface _ _,.nilIface=>some false
  | .struct fs,.agg xs,.agg ys=>if i.plain then eqFlds T xs ys fs.toList else none
  | _,_,_=>none
 | none=>none
def binA (T:Tab) (op:BinOp) (t:TypeId) (x y:AV):Option AV:=
 match x,y with
 | .int k a,.int k' b=>if k=k' then intOp op k a b else none
 | .str a,.str b=>strOp op a b
 | x,y=>match op with
  | .eql=>(eqA T t x y).map .bool
  | .neq=>(eqA T t x y).map (.bool !·)
  | _=>none
theorem intOp_ok {P:Program} {w:World} {op:BinOp} {t:TypeId} {k:IntKind} {a b:Int} {v:AV} (e:intOp op k a b=some v) (c:Cx) (x y:Operand) :
  ∃ u,(do eqGuard op t x y (.int k a) (.int k b);binOp op t (.int k a) (.int k b):Sem Value).run P w=.ok u w∧VRel c v u:=by
 have hg:(eqGuard op t x y (.int k a) (.int k b)).run P w=.ok () w:=by
  unfold eqGuard;split <;> rfl
 simp only [yV,hg,yU]
 cases op <;> simp only [intOp] at e <;> (try (split at e)) <;> simp only [yT,reduceCtorEq] at e <;> (try subst e) <;>
  simp only [binOp,ne_eq,not_true_eq_false,if_false,Op.intArith,Op.intDiv,Op.intCmp,Op.intBits,Op.shift,yW, *] <;> first | exact ⟨_,rfl,.int _ _⟩ | exact ⟨_,rfl,.bool _⟩
theorem strOp_ok {P:Program} {w:World} {op:BinOp} {t:TypeId} {a b:ByteArray} {v:AV} (e:strOp op a b=some v) (c:Cx) (x y:Operand) :
  ∃ u,(do eqGuard op t x y (.string a) (.string b);binOp op t (.string a) (.string b):Sem Value).run P w=.ok u w∧VRel c v u:=by
 have hg:(eqGuard op t x y (.string a) (.string b)).run P w=.ok () w:=by
  unfold eqGuard;split <;> rfl
 simp only [yV,hg,yU]
 cases op <;> simp only [strOp] at e <;> (try (split at e)) <;> simp only [yT,reduceCtorEq] at e <;> (try subst e)
 case add hh =>
  refine ⟨.string (a ++ b), ?_,.str _⟩
  have:¬ (((a.size+b.size:Nat):Int) > IntKind.i64.max):=by
   have:IntKind.i64.max=9223372036854775807:=rfl
   omega
  simp only [binOp,Op.stringOp,this,if_false,yW]
 all_goals exact ⟨_,rfl,.bool _⟩
theorem zBg {P:Program} {w:World} {t:TypeId} {d:TypeDesc} (hu:P.underlying t=some d) (hd:aggD d=false) {cs:Array Value} {o:Nat} {u:Value} (h:cs[o]? = some u) :
  (part t cs o).run P w=.ok u w:=by
 have:(isAgg t).run P w=.ok false w:=by
  simp only [Go.isAgg,yV,run_underlying hu,yU]
  cases d <;> first | rfl | simp [aggD] at hd
 simp only [part,yV,this,yU,zS,if_false,h,yW]
theorem zDk {P:Program} {T:Tab} (hT:T.Ok P) {c:Cx} {w:World} {xs ys:List AV} {us vs:Array Value} (hx:LRel c xs us.toList) (hy:LRel c ys vs.toList) (d:Nat) :
  ∀ (fs:List Field) (r:Bool),eqFlds T xs ys fs=some r→(Op.eqFields (d+1) us vs fs).run P w=.ok r w
 | [],r,e=>by simp only [eqFlds,yT] at e;subst e;rfl
 | f :: fs,r,e=>by
  simp only [eqFlds] at e
  simp only [Op.eqFields]
  split at e
  ·rename_i hn
   rw [if_pos hn]
   split at e
   ·rename_i kk k a k' b h1 h2 h3
    split at e
    ·rename_i hk;subst hk
     have hu:=zAm hT h1
     obtain ⟨u,hu1,hu2⟩:=hx.get h2
     obtain ⟨v,hv1,hv2⟩:=hy.get h3
     cases hu2;cases hv2
     simp only [yV,zBg hu rfl (by simpa using hu1),zBg hu rfl (by simpa using hv1),yU,run_equalIn_int w d f.type k _ a b hu]
     split at e
     ·rename_i hab
      simp only [hab,zV,zS,if_false]
      exact zDk hT hx hy d fs r e
     ·rename_i hab
      simp only [yT] at e;subst e
      have:(a == b)=false:=by simpa using hab
      simp only [this,qF,if_true,yW]
    ·cases e
   ·rename_i a b h1 h2 h3
    have hu:=zAm hT h1
    obtain ⟨u,hu1,hu2⟩:=hx.get h2
    obtain ⟨v,hv1,hv2⟩:=hy.get h3
    cases hu2;cases hv2
    simp only [yV,zBg hu rfl (by simpa using hu1),zBg hu rfl (by simpa using hv1),yU,run_equalIn_bool' w d f.type a b hu]
    split at e
    ·rename_i hab
     simp only [hab,zV,zS,if_false]
     exact zDk hT hx hy d fs r e
    ·rename_i hab
     simp only [yT] at e;subst e
     have:(a == b)=false:=by simpa using hab
     simp only [this,qF,if_true,yW]
   ·rename_i a b h1 h2 h3
    have hu:=zAm hT h1
    obtain ⟨u,hu1,hu2⟩:=hx.get h2
    obtain ⟨v,hv1,hv2⟩:=hy.get h3
    cases hu2;cases hv2
    simp only [yV,zBg hu rfl (by simpa using hu1),zBg hu rfl (by simpa using hv1),yU,run_equalIn_string w d f.type a b hu]
    split at e
    ·rename_i hab
     simp only [hab,zV,zS,if_false]
     exact zDk hT hx hy d fs r e
    ·rename_i hab
     simp only [yT] at e;subst e
     have:(a.toList == b.toList)=false:=by simpa using hab
     simp only [this,qF,if_true,yW]
   ·cases e
  ·rename_i hn
   rw [if_neg hn]
   exact zDk hT hx hy d fs r e
theorem run_slice_eqIn {P:Program} (w:World) (dd:Nat) {t e:TypeId} (hu:P.underlying t=some (.slice e)) (a b:Option Addr) (n c m d:Nat) (h:a.isNone=true∨b.isNone=true) :
  (Op.equalIn (dd+1) t (.slice a n c) (.slice b m d)).run P w=.ok (a.isNone && b.isNone) w:=by
 simp only [Op.equalIn,yV,run_underlying hu,yU]
 cases a with
 | none=>rfl
 | some a=>cases b with
  | none=>rfl
  | some b=>simp at h
theorem zBz {P:Program} (w:World) {t e:TypeId} (hu:P.underlying t=some (.slice e)) (a b:Option Addr) (n c m d:Nat) (h:a.isNone=true∨b.isNone=true) :
  (Op.equal t (.slice a n c) (.slice b m d)).run P w=.ok (a.isNone && b.isNone) w:=run_slice_eqIn w 9999 hu a b n c m d h
theorem run_if_nn {P:Program} (w:World) (dd:Nat) {t:TypeId} {ms:Array (String × TypeId)} (hu:P.underlying t=some (.interface ms)):(Op.equalIn (dd+1) t .nilIface .nilIface).run P w=.ok true w:=by
 simp only [Op.equalIn,yV,run_underlying hu,yU,yW]
theorem run_if_vn {P:Program} (w:World) (dd:Nat) {t u:TypeId} {x:Value} {ms:Array (String × TypeId)} (hu:P.underlying t=some (.interface ms)):(Op.equalIn (dd+1) t (.iface u x) .nilIface).run P w=.ok false w:=by
 simp only [Op.equalIn,yV,run_underlying hu,yU,yW]
theorem run_ifg_nn {P:Program} (w:World) (dd:Nat) {t:TypeId} {ms:Array (String × TypeId)} (hu:P.underlying t=some (.interface ms)) (hm:ms.isEmpty=true):(Op.eqGuardIn (dd+1) t .nilIface .nilIface).run P w=.ok false w:=by
 simp only [Op.eqGuardIn,yV,run_underlying hu,yU,yW,hm,zV]
theorem run_guard_nn {P:Program} (w:World) {t:TypeId} (hg:(Op.eqGuardIn Op.maxDepth t .nilIface .nilIface).run P w=.ok false w) (op:BinOp) (ox oy:Operand):(eqGuard op t ox oy .nilIface .nilIface).run P w=.ok () w:=by
 unfold eqGuard
 cases op <;> simp only [zV,qF,if_true,zS,if_false] <;> first | rfl | skip
 all_goals
  split
  ·rfl
  ·simp [hg]
theorem eqA_ok {P:Program} {T:Tab} (hT:T.Ok P) {c:Cx} {w:World} {t:TypeId} {x y:AV} {u v:Value} {r:Bool} (hx:VRel c x u) (hy:VRel c y v) (e:eqA T t x y=some r) :
  (Op.equal t u v).run P w=.ok r w ∧ ∀ op ox oy,(eqGuard op t ox oy u v).run P w=.ok () w:=by
 unfold eqA at e
 split at e
 ·rename_i i hi
  split at e
  all_goals (rename_i hd)
  ·cases hx;cases hy
   have hu:P.underlying t=some .bool:=hd ▸ (hT _ _ hi).und
   simp only [yT] at e;subst e
   exact ⟨run_equalIn_bool' w 9999 t _ _ hu,fun op ox oy=>by unfold eqGuard;split <;> rfl⟩
  ·cases hx;cases hy
   have hu:P.underlying t=some (.slice _):=hd ▸ (hT _ _ hi).und
   simp only [yT] at e;subst e
   exact ⟨zBz w hu _ _ _ _ _ _ (by simp),fun op ox oy=>by unfold eqGuard;split <;> rfl⟩
  ·have hu:P.underlying t=some (.slice _):=hd ▸ (hT _ _ hi).und
   split at e
   ·simp only [yT] at e;subst e
    cases hy
    cases hx
    ·exact ⟨zBz w hu _ _ _ _ _ _ (by simp),fun op ox oy=>by unfold eqGuard;split <;> rfl⟩
    ·omega
   ·cases e
  ·have hu:P.underlying t=some (.slice _):=hd ▸ (hT _ _ hi).und
   split at e
   ·simp only [yT] at e;subst e
    cases hx
    cases hy
    ·exact ⟨zBz w hu _ _ _ _ _ _ (by simp),fun op ox oy=>by unfold eqGuard;split <;> rfl⟩
    ·omega
   ·cases e
  ·have hu:P.underlying t=some (.slice _):=hd ▸ (hT _ _ hi).und
   simp only [yT] at e;subst e
   cases hx;cases hy
   exact ⟨zBz w hu _ _ _ _ _ _ (by simp),fun op ox oy=>by unfold eqGuard;split <;> rfl⟩
  ·have hu:P.underlying t=some (.slice _):=hd ▸ (hT _ _ hi).und
   simp only [yT] at e;subst e
   cases hx;cases hy
   exact ⟨zBz w hu _ _ _ _ _ _ (by simp),fun op ox oy=>by unfold eqGuard;split <;> rfl⟩
  ·rename_i ms
   have hu:P.underlying t=some (.interface ms):=hd ▸ (hT _ _ hi).und
   split at e
   ·rename_i hm
    simp only [yT] at e;subst e
    cases hx;cases hy
    exact ⟨run_if_nn w 9999 hu,fun op ox oy=>run_guard_nn w (run_ifg_nn w 9999 hu hm) op ox oy⟩
   ·cases e
  ·have hu:P.underlying t=some (.interface _):=hd ▸ (hT _ _ hi).und
   simp only [yT] at e;subst e
   cases hx;cases hy
   exact ⟨run_if_vn w 9999 hu,fun op ox oy=>by unfold eqGuard;split <;> rfl⟩
  ·split at e
   ·rename_i fs xs ys hp
    obtain ⟨us,rfl,hus⟩:=hx.of_agg
    obtain ⟨vs,rfl,hvs⟩:=hy.of_agg
    have hu:P.underlying t=some (.struct fs):=hd ▸ (hT _ _ hi).und
    obtain ⟨h1,h2⟩:=(hT _ _ hi).plain hp
    have hf:P.fieldsOf t=fs:=by simp [Program.fieldsOf,hu]
    refine ⟨?_,fun op ox oy => ?_⟩
    ·have:=run_equalIn_struct w 9999 t us vs (by rw [hf];exact hu) h1
     show (Op.equalIn 10000 t (.agg us) (.agg vs)).run P w=_
     rw [this,hf]
     exact zDk hT hus hvs 9998 fs.toList r e
    ·cases op <;> first | rfl | (simp only [eqGuard,zV,zS,if_false,yV,run_program,yU,h2,qF,if_true,yW])
   ·cases e
  ·cases e
 ·cases e
theorem bin_ok {P:Program} {T:Tab} (hT:T.Ok P) {c:Cx} {w:World} {op:BinOp} {t:TypeId} {x y v:AV} {p q:Value} (hx:VRel c x p) (hy:VRel c y q) (e:binA T op t x y=some v) (ox oy:Operand) :
  ∃ u,(do eqGuard op t ox oy p q;binOp op t p q:Sem Value).run P w=.ok u w∧VRel c v u:=by
 unfold binA at e
 split at e
 ·split at e
  ·rename_i hk;subst hk;cases hx;cases hy;exact intOp_ok e c ox oy
  ·cases e
 ·cases hx;cases hy;exact strOp_ok e c ox oy
 ·rename_i n1 n2
  split at e
  ·simp only [zK] at e
   obtain ⟨r,hr,rfl⟩:=e
   obtain ⟨h1,h2⟩:=eqA_ok (P:=P) (w:=w) hT hx hy hr
   refine ⟨.bool r, ?_,.bool r⟩
   simp only [yV,h2,yU]
   have:binOp .eql t p q=(do pure (.bool (← Op.equal t p q))):=by
    cases hx <;> cases hy <;> first | rfl | (simp [eqA] at hr;done) | (unfold eqA at hr;split at hr <;> (try split at hr) <;> simp_all;done)
   rw [this]
   simp only [yV,h1,yU,yW]
  ·simp only [zK] at e
   obtain ⟨r,hr,rfl⟩:=e
   obtain ⟨h1,h2⟩:=eqA_ok (P:=P) (w:=w) hT hx hy hr
   refine ⟨.bool !r, ?_,.bool _⟩
   simp only [yV,h2,yU]
   have:binOp .neq t p q=(do pure (.bool (!(← Op.equal t p q)))):=by
    cases hx <;> cases hy <;> first | rfl | (simp [eqA] at hr;done) | (unfold eqA at hr;split at hr <;> (try split at hr) <;> simp_all;done)
   rw [this]
   simp only [yV,h1,yU,yW]
  ·cases e
def unA (op:UnOp) (x:AV):Option AV:=
 match op,x with
 | .neg,.int k n=>some (.int k (k.wrap (0 - n)))
 | .not,.bool b=>some (.bool !b)
 | _,_=>none
theorem un_ok {P:Program} {c:Cx} {w:World} {op:UnOp} {x v:AV} {p:Value} (hx:VRel c x p) (e:unA op x=some v):∃ u,(Op.unary op p).run P w=.ok u w∧VRel c v u:=by
 unfold unA at e
 split at e <;> simp only [yT,reduceCtorEq] at e <;> subst e <;> cases hx
 ·exact ⟨_,rfl,.int _ _⟩
 ·exact ⟨_,rfl,.bool _⟩
def convA (T:Tab) (src dst:TypeId) (x:AV):Option AV:=
 match descOf T src,descOf T dst,x with
 | some _,some (.int k),.int _ n=>some (.int k (k.wrap n))
 | some _,some .string,.str s=>some (.str s)
 | _,_,_=>none
theorem conv_ok {P:Program} {T:Tab} (hT:T.Ok P) {c:Cx} {w:World} {s d:TypeId} {x v:AV} {p:Value} (hx:VRel c x p) (e:convA T s d x=some v):∃ u,(convert s d p).run P w=.ok u w∧VRel c v u:=by
 unfold convA at e
 split at e
 ·rename_i ds k k' n h1 h2
  simp only [yT] at e;subst e
  cases hx
  have hu:=zAm hT h2
  refine ⟨.int k (k.wrap n), ?_,.int _ _⟩
  simp only [convert,yV,run_underlying (zAm hT h1),yU,run_underlying hu,Conv.intToInt,yW]
 ·rename_i ds b h1 h2
  simp only [yT] at e;subst e
  cases hx
  have hu:=zAm hT h2
  refine ⟨.string b, ?_,.str _⟩
  simp only [convert,yV,run_underlying (zAm hT h1),yU,run_underlying hu,yW]
 ·cases e
def bnd (v:Option AV) (dflt most:Nat):Option Nat:=
 match v with
 | none=>some dflt
 | some (.int _ i)=>if 0≤i∧i≤most then some i.toNat else none
 | some _=>none
theorem zAv {P:Program} {c:Cx} {w:World} {k:IntKind} {i:Int} {y:Nat} (h:0≤i∧i≤y) (code:BoundsCode):(Instr.sliceBound (.int k i) y code).run P w=.ok i.toNat w:=by
 simp only [Instr.sliceBound,asIntOf,yV,yW,yU,h,and_self,if_true]
def ORel (c:Cx):Option AV→Option Value→Prop
 | none,none=>True
 | some v,some x=>VRel c v x
 | _,_=>False
theorem ORel.nn (c:Cx):ORel c none none:=trivial
theorem zBj {P:Program} {c:Cx} {w:World} {lo hi mx:Option AV} {lo' hi' mx':Option Value} (h1:ORel c lo lo') (h2:ORel c hi hi') (h3:ORel c mx mx') (isS:Bool) (len cap l h m:Nat)
  (e3:bnd mx cap cap=some m) (e2:bnd hi len (match mx with | some _=>m | none=>m)=some h) (e1:bnd lo 0 h=some l) (hh:mx=none∨hi≠none) :
  (Instr.sliceBounds isS len cap lo' hi' mx').run P w=.ok (l,h,m) w:=by
 have key:∀ (v:Option AV) (v':Option Value) (d y r:Nat),ORel c v v'→bnd v d y=some r→(v=none∧v'=none∧r=d)∨(∃ k i,v=some (.int k i)∧v'=some (.int k i)∧(0≤i∧i≤y)∧r=i.toNat):=by
  intro v v' d y r hv e
  unfold bnd at e
  split at e
  ·simp only [yT] at e;subst e
   cases v' with
   | none=>exact .inl ⟨rfl,rfl,rfl⟩
   | some x=>exact hv.elim
  ·split at e
   ·rename_i k i hb
    simp only [yT] at e;subst e
    cases v' with
    | none=>exact hv.elim
    | some x=>cases hv;exact .inr ⟨k,i,rfl,rfl,hb,rfl⟩
   ·cases e
  ·cases e
 simp only [Instr.sliceBounds]
 have e2':bnd hi len m=some h:=by cases mx <;> exact e2
 rcases key mx mx' cap cap m h3 e3 with ⟨rfl,rfl,rfl⟩ | ⟨k3,i3,rfl,rfl,b3,rfl⟩
 ·rcases key hi hi' len m h h2 e2' with ⟨rfl,rfl,rfl⟩ | ⟨k2,i2,rfl,rfl,b2,rfl⟩
  ·rcases key lo lo' 0 h l h1 e1 with ⟨rfl,rfl,rfl⟩ | ⟨k1,i1,rfl,rfl,b1,rfl⟩
   ·simp only [yV,yW,yU]
   ·simp only [yV,yW,yU,zAv (c:=c) b1]
  ·rcases key lo lo' 0 _ l h1 e1 with ⟨rfl,rfl,rfl⟩ | ⟨k1,i1,rfl,rfl,b1,rfl⟩
   ·simp only [yV,yW,yU,zAv (c:=c) b2]
   ·simp only [yV,yW,yU,zAv (c:=c) b1,zAv (c:=c) b2]
 ·rcases key hi hi' len _ h h2 e2' with ⟨rfl,rfl,rfl⟩ | ⟨k2,i2,rfl,rfl,b2,rfl⟩
  ·simp at hh
  ·rcases key lo lo' 0 _ l h1 e1 with ⟨rfl,rfl,rfl⟩ | ⟨k1,i1,rfl,rfl,b1,rfl⟩
   ·simp only [yV,yW,yU,zAv (c:=c) b2,zAv (c:=c) b3]
   ·simp only [yV,yW,yU,zAv (c:=c) b1,zAv (c:=c) b2,zAv (c:=c) b3]
def sliceA (T:Tab) (t:TypeId) (x:AV) (lo hi mx:Option AV):Option AV:=
 match descOf T t,x with
 | some .string,.str s=>match mx with
  | none=>(bnd hi s.size s.size).bind fun h=>(bnd lo 0 h).map fun l=>.str (s.extract l h)
  | some _=>none
 | some (.slice e),.slice cs n tl=>match T e with
  | some ei=>if cs.length=n * ei.size then
    match mx,hi with
    | none,none=>(bnd lo 0 n).map fun l=>if l=0 then .slice cs n tl else .slice (cs.drop (l * ei.size)) (n - l) .unk
    | none,some _=>(bnd hi n n).bind fun h=>(bnd lo 0 h).map fun l=>.slice ((cs.drop (l * ei.size)).take ((h - l) * ei.size)) (h - l) .unk
    | some _,some _=>(bnd mx n n).bind fun m=>(bnd hi n m).bind fun h=>(bnd lo 0 h).map fun l=>.slice ((cs.drop (l * ei.size)).take ((h - l) * ei.size)) (h - l) (if m=h then .exact else .unk)
    | some _,none=>none
   else none
  | none=>none
 | some (.slice e),.nilS=>match T e with
  | some ei=>match mx,hi with
   | none,_=>(bnd hi 0 0).bind fun h=>(bnd lo 0 h).map fun _=>.nilS
   | some _,some _=>(bnd mx 0 0).bind fun m=>(bnd hi 0 m).bind fun h=>(bnd lo 0 h).map fun _=>.nilS
   | some _,none=>none
  | none=>none
 | some (.slice e),.sref b o len cap=>match T e with
  | some ei=>match mx,hi with
   | none,_=>if cap<len then none else (bnd hi len cap).bind fun h=>(bnd lo 0 h).bind fun l=>if cap≤l then none else some (.sref b (o+l * ei.size) (h - l) (cap - l))
   | _,_=>none
  | none=>none
 | _,_=>none
theorem bnd_mono {c:Cx} {v:Option AV} {d y y' r:Nat} (h:bnd v d y=some r) (hy:y≤y'):bnd v d y'=some r:=by
 unfold bnd at h ⊢
 split at h
 ·exact h
 ·split at h
  ·rename_i hb;rw [if_pos ⟨hb.1,by omega⟩];exact h
  ·cases h
 ·cases h
theorem zCl {v:Option AV} {d y r:Nat} (h:bnd v d y=some r) (hd:d≤y):r≤y:=by
 unfold bnd at h
 split at h
 ·simp only [yT] at h;omega
 ·split at h
  ·simp only [yT] at h;omega
  ·cases h
 ·cases h
theorem bnd_some {v:AV} {d d' y:Nat}:bnd (some v) d y=bnd (some v) d' y:=by
 cases v <;> rfl
theorem sub_slice {c:Cx} {cs:List AV} {n z b off cap l h m:Nat} {tl tl':Tail} {vs:Nat→Value} (hcap:n≤cap) (hk:∀ j,j<cs.length→c.K b (off+j)=some (vs j)) (hr:∀ (j:Nat) (x:AV),cs[j]? = some x→VRel c x (vs j))
  (hlen:cs.length=n * z) (h1:l≤h) (h2:h≤n) (hm:h≤m) (ht:tl'=.unk∨(tl'=.exact∧m=h)) :
  VRel c (.slice ((cs.drop (l * z)).take ((h - l) * z)) (h - l) tl') (.slice (if m=l then some ⟨b,off,none⟩ else (some ⟨b,off,none⟩:Option Addr).map (·.add (l * z))) (h - l) (m - l)):=by
 have hlz:l * z≤n * z:=Nat.mul_le_mul_right _ (by omega)
 have hhz:(h - l) * z+l * z≤n * z:=by rw [← Nat.add_mul];exact Nat.mul_le_mul_right _ (by omega)
 have hT:∀ k,tl'=.tok k→False:=by intro k e;rcases ht with rfl | ⟨rfl,_⟩ <;> cases e
 have hE:tl'=.exact→m - l=h - l:=by intro e;rcases ht with rfl | ⟨_,rfl⟩;cases e;rfl
 split
 ·rename_i hml
  have h0:h - l=0:=by omega
  rw [h0]
  simp only [Nat.zero_mul,List.take_zero]
  exact .slice [] 0 tl' b off (m - l) (fun _=>Go.undef) (qG _) (fun j hj=>by simp at hj) (fun j x hx=>by simp at hx) (fun e=>by have:=hE e;omega) (fun k e=>(hT k e).elim)
 ·simp only [zX,Addr.add_lit]
  refine .slice _ (h - l) tl' b (off+l * z) (m - l) (fun j=>vs (l * z+j)) (by omega) (fun j hj => ?_) (fun j x hx => ?_) hE (fun k e=>(hT k e).elim)
  ·simp only [List.length_take,List.length_drop] at hj
   rw [Nat.add_assoc]
   exact hk _ (by omega)
  ·rw [List.getElem?_take] at hx
   split at hx
   ·rw [List.getElem?_drop] at hx;exact hr _ x hx
   ·cases hx
theorem slice_ok {P:Program} {T:Tab} (hT:T.Ok P) {c:Cx} {w:World} {t:TypeId} {x v:AV} {p:Value} {lo hi mx:Option AV} {lo' hi' mx':Option Value} (hx:VRel c x p)
  (h1:ORel c lo lo') (h2:ORel c hi hi') (h3:ORel c mx mx') (e:sliceA T t x lo hi mx=some v):∃ u,(Instr.sliceAt t p lo' hi' mx').run P w=.ok u w∧VRel c v u:=by
 unfold sliceA at e
 split at e
 ·rename_i s hd
  have hu:=zAm hT hd
  cases hx
  split at e
  ·cases mx' with
   | some=>exact h3.elim
   | none =>
    simp only [zQ,zK] at e
    obtain ⟨h,hh,l,hl,rfl⟩:=e
    refine ⟨.string (s.extract l h), ?_,.str _⟩
    simp only [Instr.sliceAt,yV,run_underlying hu,yU,Instr.slice,Option.isSome_none,zS,if_false,yW,
     zBj (c:=c) (mx:=none) h1 h2 (show ORel c none none from trivial) false s.size s.size l h s.size rfl hh hl (.inl rfl)]
  ·cases e
 ·rename_i el cs n tl hd
  have hu:=zAm hT hd
  split at e
  ·rename_i ei hei
   split at e
   ·rename_i hlen
    split at e
    ·
     cases mx' with
     | some=>exact h3.elim
     | none=>cases hi' with
      | some=>exact h2.elim
      | none =>
       simp only [zK] at e
       obtain ⟨l,hl,rfl⟩:=e
       have hln:l≤n:=zCl hl (qG _)
       cases hx with
       | slice _ _ _ b off cap vs hc hk hr he ht =>
        refine ⟨.slice (if cap=l then some ⟨b,off,none⟩ else (some ⟨b,off,none⟩:Option Addr).map (·.add (l * ei.size))) (n - l) (cap - l), ?_, ?_⟩
        ·simp only [Instr.sliceAt,yV,run_underlying hu,yU,Instr.slice,yW,(hT _ _ hei).sizeOf,
          zBj (c:=c) (mx:=none) (hi:=none) h1 (ORel.nn c) (ORel.nn c) true n cap l n cap rfl rfl hl (.inl rfl)]
        ·split
         ·rename_i hl0;subst hl0
          simp only [Nat.zero_mul,Nat.sub_zero,zX,Addr.add_lit,Nat.add_zero,ite_self]
          exact .slice cs n tl b off cap vs hc hk hr he ht
         ·have:=sub_slice (c:=c) (tl:=tl) (tl':=.unk) (m:=cap) hc hk hr hlen hln (zM n) hc (.inl rfl)
          rwa [List.take_of_length_le (by simp only [List.length_drop,hlen,← Nat.sub_mul];exact zM _)] at this
       | sliceNil =>
        have hl0:l=0:=by omega
        subst hl0
        refine ⟨.slice none 0 0, ?_,.sliceNil _ (by assumption)⟩
        simp only [Instr.sliceAt,yV,run_underlying hu,yU,Instr.slice,yW,(hT _ _ hei).sizeOf,
          zBj (c:=c) (mx:=none) (hi:=none) h1 (ORel.nn c) (ORel.nn c) true 0 0 0 0 0 rfl rfl hl (.inl rfl)]
        rfl
    ·
     rename_i hv
     cases mx' with
     | some=>exact h3.elim
     | none =>
      simp only [zQ,zK] at e
      obtain ⟨h,hh,l,hl,rfl⟩:=e
      have hhn:h≤n:=zCl hh (zM _)
      have hlh:l≤h:=zCl hl (qG _)
      cases hx with
      | slice _ _ _ b off cap vs hc hk hr he ht =>
       refine ⟨.slice (if cap=l then some ⟨b,off,none⟩ else (some ⟨b,off,none⟩:Option Addr).map (·.add (l * ei.size))) (h - l) (cap - l), ?_, ?_⟩
       ·simp only [Instr.sliceAt,yV,run_underlying hu,yU,Instr.slice,yW,(hT _ _ hei).sizeOf,
         zBj (c:=c) (mx:=none) h1 h2 (ORel.nn c) true n cap l h cap rfl (bnd_mono (c:=c) hh hc) hl (.inl rfl)]
       ·exact sub_slice (c:=c) (tl:=tl) (tl':=.unk) (m:=cap) hc hk hr hlen hlh hhn (by omega) (.inl rfl)
      | sliceNil =>
       have hh0:h=0:=by omega
       subst hh0
       have hl0:l=0:=by omega
       subst hl0
       refine ⟨.slice none 0 0, ?_,by simpa using VRel.sliceNil (c:=c) .unk (by intro k e;cases e)⟩
       simp only [Instr.sliceAt,yV,run_underlying hu,yU,Instr.slice,yW,(hT _ _ hei).sizeOf,
         zBj (c:=c) (mx:=none) h1 h2 (ORel.nn c) true 0 0 0 0 0 rfl hh hl (.inl rfl)]
       rfl
    ·
     rename_i mv hv
     simp only [zQ,zK] at e
     obtain ⟨m,hm,h,hh,l,hl,rfl⟩:=e
     have hmn:m≤n:=zCl hm (zM _)
     have hhm:h≤m:=by
      rw [bnd_some (d':=0)] at hh
      exact zCl hh (qG _)
     have hlh:l≤h:=zCl hl (qG _)
     cases hx with
     | slice _ _ _ b off cap vs hc hk hr he ht =>
      refine ⟨.slice (if m=l then some ⟨b,off,none⟩ else (some ⟨b,off,none⟩:Option Addr).map (·.add (l * ei.size))) (h - l) (m - l), ?_, ?_⟩
      ·simp only [Instr.sliceAt,yV,run_underlying hu,yU,Instr.slice,yW,(hT _ _ hei).sizeOf,
        zBj (c:=c) h1 h2 h3 true n cap l h m (by rw [bnd_some (d':=n)];exact bnd_mono (c:=c) hm hc) hh hl (.inr (by simp))]
      ·refine sub_slice (c:=c) (tl:=tl) (m:=m) hc hk hr hlen hlh (by omega) hhm ?_
       split
       ·rename_i e';exact .inr ⟨rfl,e'⟩
       ·exact .inl rfl
     | sliceNil =>
      have hm0:m=0:=by omega
      subst hm0
      have hh0:h=0:=by omega
      subst hh0
      have hl0:l=0:=by omega
      subst hl0
      refine ⟨.slice none 0 0, ?_,by simpa using VRel.sliceNil (c:=c) .exact (by intro k e;cases e)⟩
      simp only [Instr.sliceAt,yV,run_underlying hu,yU,Instr.slice,yW,(hT _ _ hei).sizeOf,
        zBj (c:=c) h1 h2 h3 true 0 0 0 0 0 hm hh hl (.inr (by simp))]
      rfl
    ·cases e
   ·cases e
  ·cases e
 ·rename_i el hd
  have hu:=zAm hT hd
  cases hx
  split at e
  ·rename_i ei hei
   split at e
   ·cases mx' with
    | some=>exact h3.elim
    | none =>
     simp only [zQ,zK] at e
     obtain ⟨h,hh,l,hl,rfl⟩:=e
     have hh0:h=0:=by have:=zCl hh (zM _);omega
     subst hh0
     have hl0:l=0:=by have:=zCl hl (zM _);omega
     subst hl0
     refine ⟨.slice none 0 0, ?_,.nilS⟩
     simp only [Instr.sliceAt,yV,run_underlying hu,yU,Instr.slice,yW,(hT _ _ hei).sizeOf,
        zBj (c:=c) (mx:=none) h1 h2 (ORel.nn c) true 0 0 0 0 0 rfl hh hl (.inl rfl)]
     rfl
   ·simp only [zQ,zK] at e
    obtain ⟨m,hm,h,hh,l,hl,rfl⟩:=e
    have hm0:m=0:=by have:=zCl hm (zM _);omega
    subst hm0
    have hh0:h=0:=by have:=zCl hh (zM _);omega
    subst hh0
    have hl0:l=0:=by have:=zCl hl (zM _);omega
    subst hl0
    refine ⟨.slice none 0 0, ?_,.nilS⟩
    simp only [Instr.sliceAt,yV,run_underlying hu,yU,Instr.slice,yW,(hT _ _ hei).sizeOf,
       zBj (c:=c) h1 h2 h3 true 0 0 0 0 0 hm hh hl (.inr (by simp))]
    rfl
   ·cases e
  ·cases e
 ·rename_i el b o len cap hd
  have hu:=zAm hT hd
  split at e
  ·rename_i ei hei
   split at e
   ·cases mx' with
    | some=>exact h3.elim
    | none =>
     split at e
     ·cases e
     rename_i hlen
     simp only [zQ] at e
     obtain ⟨h,hh,l,hl,e⟩:=e
     split at e
     ·cases e
     rename_i hlc
     simp only [yT] at e
     subst e
     cases hx with
     | sref _ _ _ _ n cap' hm hc' =>
      refine ⟨.slice (if cap'=l then some ⟨n,o,none⟩ else (some ⟨n,o,none⟩:Option Addr).map (·.add (l * ei.size))) (h - l) (cap' - l), ?_, ?_⟩
      ·simp only [Instr.sliceAt,yV,run_underlying hu,yU,Instr.slice,yW,(hT _ _ hei).sizeOf,
        zBj (c:=c) (mx:=none) h1 h2 (ORel.nn c) true len cap' l h cap' rfl (bnd_mono (c:=c) hh hc') hl (.inl rfl)]
      ·rw [if_neg (by omega)]
       simp only [zX,Addr.add_lit]
       exact .sref b _ _ _ n _ hm (by omega)
   ·cases e
  ·cases e
 ·cases e
end Go.Av
end
