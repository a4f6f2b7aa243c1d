/- Part 4 of the proof. -/
import Derived.Test.YtclmbbofpaecaaaGreatDoorVn3
import Derived.MapKept
set_option linter.all false
set_option linter.unusedVariables false
set_option linter.unusedSimpArgs false
set_option linter.unusedSectionVars false
open Array renaming getElem?_eq_getElem → qA, getElem?_eq_none → qP
open List renaming getElem?_eq_none → zN, getElem?_append_right → zY, getElem?_append_left → qJ, getElem?_set → yC
open Nat renaming le_refl → zM, lt_or_ge → zU
open Option renaming map_eq_some_iff → zK, bind_eq_some_iff → zQ, map_some → zX, getD_some → qD
open Option.some renaming injEq → yT
open Go.Result renaming andThen_ok → yU
open Go.Sem renaming run_bind → yV
open Go.Sem renaming run_pure → yW
section
namespace Go.Av
open Go
def eqKey (d:TypeDesc) (x y:AV):Option Bool:=
 match d,x,y with
 | .int _,.int k a,.int k' b=>if k=k' then some (a == b) else none
 | .string,.str a,.str b=>some (a == b)
 | _,_,_=>none
def isKey (d:TypeDesc) (x:AV):Bool:=
 match d,x with
 | .int _,.int _ _=>true
 | .string,.str _=>true
 | _,_=>false
def findA (d:TypeDesc) (k:AV):List (AV × AV)→Nat→Option (Option (Nat × AV))
 | [],_=>some none
 | e :: es,i =>
  match eqKey d k e.1 with
  | some true=>some (some (i,e.2))
  | some false=>findA d k es (i+1)
  | none=>none
theorem sameNow_ok {c:Cx} {d:TypeDesc} {x y:AV} {p q:Value} {b:Bool} (hx:VRel c x p) (hy:VRel c y q) (e:eqKey d x y=some b):Instr.sameNow d p q=some b:=by
 unfold eqKey at e
 split at e
 ·split at e
  ·rename_i hk;subst hk
   simp only [yT] at e;subst e
   cases hx;cases hy;simp [Instr.sameNow]
  ·cases e
 ·simp only [yT] at e;subst e
  cases hx;cases hy;rfl
 ·cases e
def ERel (c:Cx) (es:List (AV × AV)) (en:List MapEntry):Prop:=
 es.length=en.length ∧ ∀ (j:Nat) (kv:AV × AV) (e:MapEntry),es[j]? = some kv→en[j]? = some e→VRel c kv.1 e.key∧VRel c kv.2 e.val
theorem ERel.tail {c:Cx} {kv:AV × AV} {es:List (AV × AV)} {en:List MapEntry} (h:ERel c (kv :: es) en):∃ e en',en=e :: en'∧VRel c kv.1 e.key∧VRel c kv.2 e.val∧ERel c es en':=by
 cases en with
 | nil=>simp [ERel] at h
 | cons e en =>
  have h0:=h.2 0 kv e (by simp) (by simp)
  exact ⟨e,en,rfl,h0.1,h0.2,by simpa using h.1,fun j a b h1 h2=>h.2 (j+1) a b (by simpa using h1) (by simpa using h2)⟩
theorem zEd {c:Cx} {d:TypeDesc} {k:AV} {p:Value} (hk:VRel c k p):∀ (es:List (AV × AV)) (en:List MapEntry) (i:Nat) (r:Option (Nat × AV)),ERel c es en→findA d k es i=some r →
  (r=none∧Instr.findNow d p en i=some none)∨(∃ j v u,r=some (j,v)∧Instr.findNow d p en i=some (some (j,u))∧VRel c v u∧i≤j∧j - i<es.length ∧ ∃ kk,(es[j - i]?).map (·.1)=some kk∧eqKey d k kk=some true)
 | [],en,i,r,h,e=>by
  simp only [findA,yT] at e
  have:en=[]:=by have:=h.1;cases en <;> simp_all
  subst this
  exact .inl ⟨e.symm,rfl⟩
 | kv :: es,en,i,r,h,e=>by
  obtain ⟨en0,en',rfl,h1,h2,h3⟩:=h.tail
  simp only [findA] at e
  split at e
  ·rename_i hq
   simp only [yT] at e;subst e
   refine .inr ⟨i,kv.2,en0.val,rfl, ?_,h2,zM _,by simp,kv.1,by simp,hq⟩
   simp only [Instr.findNow,sameNow_ok hk h1 hq]
  ·rename_i hq
   rcases zEd hk es en' (i+1) r h3 e with ⟨h4,h5⟩ | ⟨j,v,u,h4,h5,h6,h7,h8,kk,h9,h10⟩
   ·refine .inl ⟨h4, ?_⟩
    simp only [Instr.findNow,sameNow_ok hk h1 hq];exact h5
   ·refine .inr ⟨j,v,u,h4, ?_,h6,by omega,by simp;omega,kk, ?_,h10⟩
    ·simp only [Instr.findNow,sameNow_ok hk h1 hq];exact h5
    ·rw [show j - i=(j - (i+1))+1 by omega,List.getElem?_cons_succ];exact h9
  ·cases e
theorem zBc {P:Program} {w:World} {t:TypeId} {d:TypeDesc} (hu:P.underlying t=some d) {c:Cx} {k:AV} {p:Value} (hk:VRel c k p) (h:isKey d k=true) (em:Bool):(Instr.checkKey em 10000 t p).run P w=.ok () w:=by
 have key:∀ n,(Instr.checkKey em (n+1) t p).run P w=.ok () w:=by
  intro n
  unfold isKey at h
  split at h
  ·cases hk
   simp only [Instr.checkKey,yV,run_underlying hu,yU,yW]
  ·cases hk
   simp only [Instr.checkKey,yV,run_underlying hu,yU,yW]
  ·cases h
 exact key 9999
theorem map_live {c:Cx} {S:St} {w:World} (h:StRel c S w) {i n:Nat} {es:List (AV × AV)} (hi:S.heap[i]? = some (some (.map es))) (hm:c.μ i=some n) :
  c.XO n=none ∧ ∃ en cl,w.heap[n]? = some (.map en cl)∧ERel c es en.toList:=by
 obtain ⟨n',h1,h2,en,cl,h3,h4,h5⟩:=h.blk _ _ hi
 rw [hm] at h1;cases h1
 exact ⟨h2,en,cl,h3,by simpa using h4,fun j kv e a b=>h5 j kv e a (by simpa using b)⟩
def makeMapA:Res:=.alloc (.map []) .map
theorem makeMap_ok {P:Program} {c:Cx} {S:St} {w:World} (h:StRel c S w) (t:TypeId):∃ v w',(Instr.makeMap t none).run P w=.ok v w'∧Post c S makeMapA v w':=by
 refine ⟨.map (some w.heap.size),w.alloc (.map #[] 0), ?_,Post.newBlk h _ (fun c' hc hK hX => ?_) (fun c' i hc hm=>.map i _ hm)⟩
 ·simp [Instr.makeMap]
 ·refine ⟨by rw [hc.XO];exact XO_new h,#[],0, ?_,rfl,by simp⟩
  simp [World.alloc,-World.alloc_eq]
def lookupA (T:Tab) (S:St) (t:TypeId) (m k:AV) (ok:Bool):Option AV:=
 match descOf T t with
 | some (.map kt e)=>match T e,descOf T kt with
  | some ei,some kd=>if isKey kd k∧aggD ei.desc=false then
    match m with
    | .nilMap=>some (if ok then .tuple [zeroA ei,.bool false] else zeroA ei)
    | .map i=>match S.heap[i]? with
     | some (some (.map es))=>match findA kd k es 0 with
      | some (some (_,v))=>some (if ok then .tuple [v,.bool true] else v)
      | some none=>some (if ok then .tuple [zeroA ei,.bool false] else zeroA ei)
      | none=>none
     | _=>none
    | _=>none
   else none
  | _,_=>none
 | _=>none
theorem lookup_ok {P:Program} {T:Tab} (hT:T.Ok P) {c:Cx} {S:St} {w:World} (h:StRel c S w) {t:TypeId} {m k v:AV} {p q:Value} {ok:Bool} (hm:VRel c m p) (hk:VRel c k q) (e:lookupA T S t m k ok=some v) :
  ∃ u,(Instr.lookup t p q ok).run P w=.ok u w∧VRel c v u:=by
 have tup:∀ (a b:AV) (x y:Value),VRel c a x→VRel c b y→VRel c (.tuple [a,b]) (.tuple #[x,y]):=fun a b x y h1 h2=>VRel.mk_tuple (LRel.cons h1 (LRel.cons h2 (LRel.nil c)))
 unfold lookupA at e
 split at e
 ·rename_i kt el hd
  have hu:=zAm hT hd
  split at e
  ·rename_i ei kd hei hkd
   have huk:=zAm hT hkd
   obtain ⟨z,hz1,hz2⟩:=(hT _ _ hei).zeroV w
   split at e
   ·rename_i hc
    obtain ⟨hik,_⟩:=hc
    split at e
    ·simp only [yT] at e;subst e
     cases hm
     refine ⟨if ok then .tuple #[z,.bool false] else z, ?_, ?_⟩
     ·simp only [Instr.lookup,yV,run_underlying hu,yU,yW,zBc huk hk hik,Instr.findKey,run_underlying huk,Instr.findNow,hz1]
     ·cases ok
      ·exact hz2 c
      ·exact tup _ _ _ _ (hz2 c) (.bool _)
    ·split at e
     ·rename_i i es hes
      cases hm with
      | map _ n hn =>
       obtain ⟨_,en,cl,h1,h2⟩:=map_live h hes hn
       have hg:(getObj n).run P w=.ok (.map en cl) w:=MapKept.run_getObj_map h1
       split at e
       ·rename_i j v' hf
        simp only [yT] at e;subst e
        rcases zEd hk es en.toList 0 _ h2 hf with ⟨h3,_⟩ | ⟨j',v'',u,h3,h4,h5,_⟩
        ·cases h3
        ·cases h3
         refine ⟨if ok then .tuple #[u,.bool true] else u, ?_, ?_⟩
         ·simp only [Instr.lookup,yV,run_underlying hu,yU,yW,hg,zBc huk hk hik,Instr.findKey,run_underlying huk,h4]
         ·cases ok
          ·exact h5
          ·exact tup _ _ _ _ h5 (.bool _)
       ·rename_i hf
        simp only [yT] at e;subst e
        rcases zEd hk es en.toList 0 _ h2 hf with ⟨_,h4⟩ | ⟨j',v'',u,h3,_⟩
        ·refine ⟨if ok then .tuple #[z,.bool false] else z, ?_, ?_⟩
         ·simp only [Instr.lookup,yV,run_underlying hu,yU,yW,hg,zBc huk hk hik,Instr.findKey,run_underlying huk,h4,hz1]
         ·cases ok
          ·exact hz2 c
          ·exact tup _ _ _ _ (hz2 c) (.bool _)
        ·cases h3
       ·cases e
     ·cases e
    ·cases e
   ·cases e
  ·cases e
 ·cases e
theorem Chg.setObj (w:World) (r:Nat) (o o':Obj) (h:w.heap[r]? = some o) (hn:∀ cs t f,o ≠ .cells cs t f) (hn':∀ cs t f,o' ≠ .cells cs t f) :
  Chg w { w with heap:=w.heap.setIfInBounds r o' } (fun _ _=>False) (fun b=>b=r):=by
 have hr:r<w.heap.size:=by
  rcases zU r w.heap.size with h' | h'
  ·exact h'
  ·rw [qP h'] at h;cases h
 have other:∀ b,b≠r→({ w with heap:=w.heap.setIfInBounds r o' }:World).heap[b]? = w.heap[b]?:=by
  intro b hb
  simp only [Array.getElem?_setIfInBounds]
  rw [if_neg (fun e=>hb e.symm)]
 have ne:∀ b o v,w.cell? ⟨b,o,none⟩=some v→b≠r:=by
  intro b o1 v hv e
  subst e
  unfold World.cell? at hv
  simp only [h] at hv
  cases o <;> simp at hv
  exact absurd rfl (hn _ _ _)
 refine ⟨fun b o1 v hv _ => ?_,fun b o1 v hv=>⟨v, ?_⟩,fun b o1 hb => ?_,fun b ob hob hc hne => ?_,by simp,fun b x hx => ?_,⟨rfl,rfl,fun b cs t fr e=>⟨cs, ?_,rfl⟩⟩⟩
 ·simp only [World.cell?,other b (ne b o1 v hv)];exact hv
 ·simp only [World.cell?,other b (ne b o1 v hv)];exact hv
 ·by_cases hbr:b=r
  ·subst hbr
   have h1:({ w with heap:=w.heap.setIfInBounds b o' }:World).heap[b]? = some o':=by simp [Array.getElem?_setIfInBounds,hr]
   simp only [World.frozen?,h1,h]
   cases o <;> cases o' <;> simp
   all_goals first | exact absurd rfl (hn _ _ _) | exact absurd rfl (hn' _ _ _)
  ·simp only [World.frozen?,other b hbr]
 ·rw [other b hne];exact hob
 ·have hbr:b≠r:=by
   intro e;subst e
   unfold World.shape? at hx;simp only [h] at hx
   cases o <;> simp at hx
   exact absurd rfl (hn _ _ _)
  simp only [World.shape?,other b hbr];exact hx
 ·have hbr:b≠r:=by
   intro x;subst x
   rw [h] at e;cases e
   exact hn _ _ _ rfl
  rw [other b hbr];exact e
theorem Post.objIn {c:Cx} {S:St} {w:World} (h:StRel c S w) {b n:Nat} {B B':Blk} {o o':Obj} (hb:S.heap[b]? = some (some B)) (hn:c.μ b=some n) (ho:w.heap[n]? = some o) (hnc:∀ cs t f,o ≠ .cells cs t f) (hnc':∀ cs t f,o' ≠ .cells cs t f) (hXO:c.XO n=none)
  (hcells:∀ l,B ≠ .cells l) (hB:BRel c n { w with heap:=w.heap.setIfInBounds n o' } B'):StRel c (S.put b B') { w with heap:=w.heap.setIfInBounds n o' }:=by
 have hS:=(h.clear b).chg (Chg.setObj w n o o' ho hnc hnc') (fun _ _ e=>e.elim) (fun b' e=>by subst e;exact hXO) (fun i' Bi n' hBi hm=>⟨fun _ _ e=>e,fun _ hr=>by
   obtain ⟨hne,hB'⟩:=zAt hBi
   subst hr
   exact hne (h.inj i' b Bi _ n' hB' hb hm hn)⟩)
 have hput:=hS.put b n B' (fun B'' hB''=>(zAt hB'').1 rfl) hn hB (fun j B'' hB'' hm=>(zAt hB'').1 (h.inj j b B'' _ n (zAt hB'').2 hb hm hn))
  (fun k x hk hx=>fun e=>by
   obtain ⟨x1,x2,x3⟩:=x
   simp only at e;subst e
   exact h.tblk k b _ _ _ _ hk hb hx hn)
 have:(S.clear b).put b B'=S.put b B':=by
  have hlt:b<S.heap.length:=by
   rcases zU b S.heap.length with h' | h'
   ·exact h'
   ·rw [zN h'] at hb;cases hb
  simp only [St.clear,St.put,List.length_set]
  rw [show b+1 - S.heap.length=0 by omega]
  simp
 rw [this] at hput
 exact hput
theorem zBs {w:World} {r:Nat} {o o':Obj} (h:w.heap[r]? = some o):({ w with heap:=w.heap.setIfInBounds r o' }:World).heap[r]? = some o':=by
 have hr:r<w.heap.size:=by
  rcases zU r w.heap.size with h' | h'
  ·exact h'
  ·rw [qP h'] at h;cases h
 simp [Array.getElem?_setIfInBounds,hr]
theorem sameBits_ok {c:Cx} {d:TypeDesc} {x y:AV} {p q:Value} (hx:VRel c x p) (hy:VRel c y q) (e:eqKey d x y=some true):Instr.sameBits 10000 q p=true:=by
 unfold eqKey at e
 split at e
 ·split at e
  ·rename_i hk;subst hk
   simp only [yT] at e
   have:=eq_of_beq e
   subst this
   cases hx;cases hy;simp [Instr.sameBits]
  ·cases e
 ·simp only [yT] at e
  cases hx;cases hy
  simp only [Instr.sameBits]
  rw [beq_toListBytes] at e ⊢
  rw [eq_of_beq e]
  exact beq_self_eq_true _
 ·cases e
def zAz (T:Tab) (S:St) (t:TypeId) (m k v:AV):Option Res:=
 match descOf T t,m with
 | some (.map kt e),.map i=>match descOf T kt,S.heap[i]? with
  | some kd,some (some (.map es))=>if isKey kd k then
    match findA kd k es 0 with
    | some (some (j,_))=>some (.write i (.map (es.set j (k,v))) .undef)
    | some none=>some (.write i (.map (es ++ [(k,v)])) .undef)
    | none=>none
   else none
  | _,_=>none
 | _,_=>none
theorem mapUpdate_ok {P:Program} {T:Tab} (hT:T.Ok P) {c:Cx} {S:St} {w:World} (h:StRel c S w) {t:TypeId} {m k v:AV} {p q u:Value} {r:Res} (hm:VRel c m p) (hk:VRel c k q) (hv:VRel c v u) (e:zAz T S t m k v=some r) :
  ∃ w',(Instr.mapUpdate t p q u).run P w=.ok () w'∧Post c S r Go.undef w':=by
 unfold zAz at e
 split at e
 ·rename_i kt el i hd
  have hu:=zAm hT hd
  split at e
  ·rename_i kd es hkd hes
   have huk:=zAm hT hkd
   split at e
   ·rename_i hik
    cases hm with
    | map _ n hn =>
     obtain ⟨hxo,en,cl,h1,h2⟩:=map_live h hes hn
     have hg:(getObj n).run P w=.ok (.map en cl) w:=MapKept.run_getObj_map h1
     split at e
     ·rename_i j v' hf
      simp only [yT] at e;subst e
      rcases zEd hk es en.toList 0 _ h2 hf with ⟨h3,_⟩ | ⟨j',v'',u',h3,h4,h5,_,h6,kk,h7,h8⟩
      ·cases h3
      ·cases h3
       simp only [Nat.sub_zero] at h6 h7
       have hj:j<en.size:=by have:=h2.1;simp at this;omega
       have hej:en[j]? = some en[j]:=qA hj
       have hkey:Instr.sameBits 10000 (en[j]).key q=true:=by
        obtain ⟨kv,hkv,rfl⟩:=Option.map_eq_some_iff.1 h7
        obtain ⟨hr1,_⟩:=h2.2 j kv en[j] hkv (by simp [hej])
        exact sameBits_ok hk hr1 h8
       refine ⟨{ w with heap:=w.heap.setIfInBounds n (.map (en.modify j fun e=>{ e with key:=q,val:=u }) cl) }, ?_,c,Cx.le.refl c,rfl,rfl, ?_,VRel.undef c⟩
       ·have hks:(Instr.keyThatStays en[j].key q).run P w=.ok q w:=by simp [Instr.keyThatStays,hkey]
        simp only [Instr.mapUpdate,yV,run_underlying hu,yU,hg,zBc huk hk hik,Instr.findKey,run_underlying huk,h4,yW,hej,zX,qD,hks,MapKept.run_setObj_map _ h1]
       ·refine Post.objIn h hes hn h1 (fun _ _ _ e=>by cases e) (fun _ _ _ e=>by cases e) hxo (fun _ e=>by cases e) ⟨hxo,_,cl,zBs h1,by simp [h2.1],fun j' kv e' a b => ?_⟩
        rw [yC] at a
        rw [Array.getElem?_modify] at b
        by_cases hjj:j=j'
        ·subst hjj
         simp only [if_true,hej,zX,yT] at b
         simp only [if_true,h6] at a
         simp only [yT] at a
         subst a;subst b
         exact ⟨hk,hv⟩
        ·rw [if_neg hjj] at a b
         exact h2.2 j' kv e' a (by simpa using b)
     ·rename_i hf
      simp only [yT] at e;subst e
      rcases zEd hk es en.toList 0 _ h2 hf with ⟨_,h4⟩ | ⟨j',v'',u',h3,_⟩
      ·refine ⟨{ w with heap:=w.heap.setIfInBounds n (.map (en.push { key:=q,val:=u,born:=cl }) (cl+1)) }, ?_,c,Cx.le.refl c,rfl,rfl, ?_,VRel.undef c⟩
       ·simp only [Instr.mapUpdate,yV,run_underlying hu,yU,hg,zBc huk hk hik,Instr.findKey,run_underlying huk,h4,yW,MapKept.run_setObj_map _ h1]
       ·have hlen:es.length=en.size:=by have:=h2.1;simp at this;exact this
        refine Post.objIn h hes hn h1 (fun _ _ _ e=>by cases e) (fun _ _ _ e=>by cases e) hxo (fun _ e=>by cases e) ⟨hxo,_,_,zBs h1,by simp [hlen],fun j' kv e' a b => ?_⟩
        rw [Array.getElem?_push] at b
        by_cases hjj:j'=en.size
        ·simp only [hjj,if_true,yT] at b
         subst b
         rw [hjj,← hlen,zY (zM _)] at a
         simp at a
         subst a
         exact ⟨hk,hv⟩
        ·rw [if_neg hjj] at b
         have hlt:j'<es.length:=by
          rcases zU j' es.length with h' | h'
          ·exact h'
          ·rw [qP (by omega)] at b;cases b
         rw [qJ hlt] at a
         exact h2.2 j' kv e' a (by simpa using b)
      ·cases h3
     ·cases e
   ·cases e
  ·cases e
 ·cases e
def deleteA (T:Tab) (S:St) (t:TypeId) (m k:AV):Option Res:=
 match descOf T t,m with
 | some (.map kt e),.map i=>match descOf T kt,S.heap[i]? with
  | some kd,some (some (.map es))=>if isKey kd k then
    match findA kd k es 0 with
    | some (some (j,_))=>some (.write i (.map (es.eraseIdx j)) (.tuple []))
    | some none=>some (.write i (.map es) (.tuple []))
    | none=>none
   else none
  | _,_=>none
 | _,_=>none
theorem delete_ok {P:Program} {T:Tab} (hT:T.Ok P) {c:Cx} {S:St} {w:World} (h:StRel c S w) {t ty:TypeId} {ts:Array TypeId} {m k:AV} {p q:Value} {r:Res} (h0:ts[0]? = some t) (hm:VRel c m p) (hk:VRel c k q) (e:deleteA T S t m k=some r) :
  ∃ v w',(Builtin.delete_ ts ty #[p,q]).run P w=.ok v w'∧Post c S r v w':=by
 unfold deleteA at e
 split at e
 ·rename_i kt el i hd
  have hu:=zAm hT hd
  split at e
  ·rename_i kd es hkd hes
   have huk:=zAm hT hkd
   split at e
   ·rename_i hik
    cases hm with
    | map _ n hn =>
     obtain ⟨hxo,en,cl,h1,h2⟩:=map_live h hes hn
     have hg:(getObj n).run P w=.ok (.map en cl) w:=MapKept.run_getObj_map h1
     split at e
     ·rename_i j v' hf
      simp only [yT] at e;subst e
      rcases zEd hk es en.toList 0 _ h2 hf with ⟨h3,_⟩ | ⟨j',v'',u',h3,h4,h5,_,h6,_⟩
      ·cases h3
      ·cases h3
       simp only [Nat.sub_zero] at h6
       have hlen:es.length=en.size:=by have:=h2.1;simp at this;exact this
       refine ⟨.tuple #[],{ w with heap:=w.heap.setIfInBounds n (.map (en.eraseIdxIfInBounds j) cl) }, ?_,c,Cx.le.refl c,rfl,rfl, ?_,VRel.mk_tuple (LRel.nil c)⟩
       ·simp only [Builtin.delete_,h0,yV,run_underlying hu,yU,hg,zBc huk hk hik,Instr.findKey,run_underlying huk,h4,yW,MapKept.run_setObj_map _ h1,List.getElem?_toArray,List.getElem?_cons_zero,List.getElem?_cons_succ]
       ·refine Post.objIn h hes hn h1 (fun _ _ _ e=>by cases e) (fun _ _ _ e=>by cases e) hxo (fun _ e=>by cases e) ⟨hxo,_,cl,zBs h1, ?_,fun j' kv e' a b => ?_⟩
        ·rw [List.length_eraseIdx,Array.eraseIdxIfInBounds,dif_pos (by omega)]
         simp only [Array.size_eraseIdx]
         rw [if_pos (by omega),hlen]
        ·rw [Array.eraseIdxIfInBounds,dif_pos (by omega)] at b
         rw [List.getElem?_eraseIdx] at a
         rw [Array.getElem?_eraseIdx] at b
         by_cases hjj:j'<j
         ·rw [if_pos hjj] at a b
          exact h2.2 _ kv e' a (by simpa using b)
         ·rw [if_neg hjj] at a b
          exact h2.2 _ kv e' a (by simpa using b)
     ·rename_i hf
      simp only [yT] at e;subst e
      rcases zEd hk es en.toList 0 _ h2 hf with ⟨_,h4⟩ | ⟨j',v'',u',h3,_⟩
      ·refine ⟨.tuple #[],{ w with heap:=w.heap.setIfInBounds n (.map en cl) }, ?_,c,Cx.le.refl c,rfl,rfl, ?_,VRel.mk_tuple (LRel.nil c)⟩
       ·simp only [Builtin.delete_,h0,yV,run_underlying hu,yU,hg,zBc huk hk hik,Instr.findKey,run_underlying huk,h4,yW,MapKept.run_setObj_map _ h1,List.getElem?_toArray,List.getElem?_cons_zero,List.getElem?_cons_succ]
       ·exact Post.objIn h hes hn h1 (fun _ _ _ e=>by cases e) (fun _ _ _ e=>by cases e) hxo (fun _ e=>by cases e) ⟨hxo,_,cl,zBs h1,by have:=h2.1;simpa using this,fun j' kv e' a b=>h2.2 j' kv e' a (by simpa using b)⟩
      ·cases h3
     ·cases e
   ·cases e
  ·cases e
 ·cases e
def rangeA (T:Tab) (t:TypeId) (x:AV):Option Res:=
 match descOf T t,x with
 | some .string,.str s=>some (.alloc (.siter s 0) (.ref · 0))
 | _,_=>none
theorem range_ok {P:Program} {T:Tab} (hT:T.Ok P) {c:Cx} {S:St} {w:World} (h:StRel c S w) {t:TypeId} {x:AV} {p:Value} {r:Res} (hx:VRel c x p) (e:rangeA T t x=some r) :
  ∃ v w',(Instr.range t p).run P w=.ok v w'∧Post c S r v w':=by
 unfold rangeA at e
 split at e
 ·rename_i s hd
  have hu:=zAm hT hd
  simp only [yT] at e;subst e
  cases hx
  refine ⟨_,_,run_range_string w t s hu,Post.newBlk h _ (fun c' hc hK hX=>⟨by rw [hc.XO];exact XO_new h,World.iter_heap w s 0⟩) (fun c' i hc hm=>.ref i 0 _ hm)⟩
 ·cases e
def nextA (S:St) (x:AV):Option Res:=
 match x with
 | .ref i 0=>match S.heap[i]? with
  | some (some (.siter s pos))=>if pos<s.size then
    some (.write i (.siter s (pos+(Utf8.decode s pos).2)) (.tuple [.bool true,.int .i64 pos,.int .i32 (Utf8.decode s pos).1]))
   else some (.pure (.tuple [.bool false]))
  | _=>none
 | _=>none
theorem next_ok {P:Program} {c:Cx} {S:St} {w:World} (h:StRel c S w) {ty:TypeId} {x:AV} {p:Value} {r:Res} (hx:VRel c x p) (e:nextA S x=some r) :
  ∃ v w',(Instr.next p true ty).run P w=.ok v w'∧Post c S r v w':=by
 unfold nextA at e
 split at e
 ·rename_i i
  split at e
  ·rename_i s pos hs
   cases hx with
   | ref _ _ n hn =>
    obtain ⟨n',h1,hxo,h2⟩:=h.blk _ _ hs
    rw [hn] at h1;cases h1
    have hg:(getObj n).run P w=.ok (.stringIter s pos) w:=by simp [getObj,Sem.run,h2]
    split at e
    ·rename_i hp
     simp only [yT] at e;subst e
     have hso:(Go.setObj n (.stringIter s (pos+(Utf8.decode s pos).2))).run P w=.ok () { w with heap:=w.heap.setIfInBounds n (.stringIter s (pos+(Utf8.decode s pos).2)) }:=by simp [Go.setObj,Sem.run,h2]
     refine ⟨.tuple #[.bool true,goInt pos,.int .i32 (Utf8.decode s pos).1],_, ?_,c,Cx.le.refl c,rfl,rfl,Post.objIn h hs hn h2 (fun _ _ _ e=>by cases e) (fun _ _ _ e=>by cases e) hxo (fun _ e=>by cases e) ⟨hxo,zBs h2⟩,
      VRel.mk_tuple (LRel.cons (.bool _) (LRel.cons (.int _ _) (LRel.cons (.int _ _) (LRel.nil c))))⟩
     simp only [Instr.next,yV,hg,yU,hp,if_true,hso,yW]
    ·rename_i hp
     simp only [yT] at e;subst e
     refine ⟨.tuple #[.bool false],w, ?_,Post.same h (VRel.mk_tuple (LRel.cons (.bool _) (LRel.nil c)))⟩
     simp only [Instr.next,yV,hg,yU,hp,if_false,yW]
  ·cases e
 ·cases e
def zAx (T:Tab) (x:AV) (t:TypeId) (ok:Bool):Option AV:=
 match T t with
 | some i=>match i.desc with
  | .interface _=>none
  | _=>match x with
   | .iface u v=>if u=t then some (if ok then .tuple [v,.bool true] else v) else if ok then some (.tuple [zeroA i,.bool false]) else none
   | .nilIface=>if ok then some (.tuple [zeroA i,.bool false]) else none
   | _=>none
 | none=>none
theorem typeAssert_ok {P:Program} {T:Tab} (hT:T.Ok P) {c:Cx} {w:World} {x v:AV} {xt t:TypeId} {ok:Bool} {p:Value} (hx:VRel c x p) (e:zAx T x t ok=some v) :
  ∃ u,(Instr.typeAssert p xt t ok).run P w=.ok u w∧VRel c v u:=by
 have tup:∀ (a b:AV) (x y:Value),VRel c a x→VRel c b y→VRel c (.tuple [a,b]) (.tuple #[x,y]):=fun a b x y h1 h2=>VRel.mk_tuple (LRel.cons h1 (LRel.cons h2 (LRel.nil c)))
 unfold zAx at e
 split at e
 ·rename_i i hi
  have hu:=(hT _ _ hi).und
  obtain ⟨z,hz1,hz2⟩:=(hT _ _ hi).zeroV w
  split at e
  ·cases e
  ·rename_i hni
   split at e
   ·rename_i u' v'
    cases hx with
    | iface _ _ y hy =>
     split at e
     ·rename_i ht;subst ht
      simp only [yT] at e;subst e
      refine ⟨if ok then .tuple #[y,.bool true] else y, ?_, ?_⟩
      ·simp only [Instr.typeAssert,yV,run_underlying hu,yU]
       generalize hd:i.desc=d at *
       cases d <;> simp only [if_true,yW]
      ·cases ok
       ·exact hy
       ·exact tup _ _ _ _ hy (.bool _)
     ·rename_i hne
      split at e
      ·rename_i hok
       simp only [yT] at e;subst e
       refine ⟨.tuple #[z,.bool false], ?_,tup _ _ _ _ (hz2 c) (.bool _)⟩
       simp only [Instr.typeAssert,yV,run_underlying hu,yU]
       generalize hd:i.desc=d at *
       cases d <;> simp only [hne,hok,if_true,if_false,yV,hz1,yU,yW]
      ·cases e
   ·cases hx
    split at e
    ·rename_i hok
     simp only [yT] at e;subst e
     refine ⟨.tuple #[z,.bool false], ?_,tup _ _ _ _ (hz2 c) (.bool _)⟩
     simp only [Instr.typeAssert,yV,run_underlying hu,yU]
     generalize hd:i.desc=d at *
     cases d <;> simp only [hok,if_true,yV,hz1,yU,yW]
    ·cases e
   ·cases e
 ·cases e
def zAc (x:AV) (i:Nat):Option AV:=
 match x with
 | .tuple l=>l[i]?
 | _=>none
theorem extract_ok {P:Program} {c:Cx} {w:World} {x v:AV} {i:Nat} {p:Value} (hx:VRel c x p) (e:zAc x i=some v):∃ u,(Instr.extract p i).run P w=.ok u w∧VRel c v u:=by
 unfold zAc at e
 split at e
 ·obtain ⟨vs,rfl,hl⟩:=hx.of_tuple
  obtain ⟨u,h1,h2⟩:=hl.get e
  have h1':vs[i]? = some u:=by simpa using h1
  exact ⟨u,by simp [Instr.extract,h1'],h2⟩
 ·cases e
def evs (ts:TS):List Operand→Option (List AV)
 | []=>some []
 | o :: os=>match aeval ts o,evs ts os with
  | some v,some vs=>some (v :: vs)
  | _,_=>none
def evP (ts:TS):List (Nat × Operand)→Option (List (Nat × AV))
 | []=>some []
 | (i,o) :: os=>match aeval ts o,evP ts os with
  | some v,some vs=>some ((i,v) :: vs)
  | _,_=>none
def evO (ts:TS):Option Operand→Option (Option AV)
 | none=>some none
 | some o=>(aeval ts o).map some
theorem evs_ok {c:Cx} {ts:TS} {a:Act} (h:TsRel c ts a.tmps):∀ (os:List Operand) (vs:List AV),evs ts os=some vs→LRel c vs (os.map a.eval)
 | [],vs,e=>by simp only [evs,yT] at e;subst e;exact LRel.nil c
 | o :: os,vs,e=>by
  simp only [evs] at e
  split at e
  ·rename_i v vs' h1 h2
   simp only [yT] at e;subst e
   exact LRel.cons (zAh h h1) (evs_ok h os vs' h2)
  ·cases e
theorem evP_ok {c:Cx} {ts:TS} {a:Act} (h:TsRel c ts a.tmps):∀ (os:List (Nat × Operand)) (vs:List (Nat × AV)),evP ts os=some vs→PRel c vs (os.map fun p=>(p.1,a.eval p.2))
 | [],vs,e=>by simp only [evP,yT] at e;subst e;trivial
 | (i,o) :: os,vs,e=>by
  simp only [evP] at e
  split at e
  ·rename_i v vs' h1 h2
   simp only [yT] at e;subst e
   exact ⟨rfl,zAh h h1,evP_ok h os vs' h2⟩
  ·cases e
theorem evO_ok {c:Cx} {ts:TS} {a:Act} (h:TsRel c ts a.tmps) {o:Option Operand} {v:Option AV} (e:evO ts o=some v):ORel c v (o.map a.eval):=by
 cases o with
 | none=>simp only [evO,yT] at e;subst e;trivial
 | some o=>simp only [evO,zK] at e;obtain ⟨x,h1,rfl⟩:=e;exact zAh h h1
def zEh:AV→Option AV
 | .ref i o=>some (.ref i o)
 | .eptr l o=>some (.eptr l o)
 | .func (.func f) a b=>some (.func (.func f) a b)
 | .iface t v=>some (.iface t v)
 | _=>none
def isIface:TypeDesc→Bool
 | .interface _=>true
 | _=>false
def zAa (T:Tab) (S:St) (b:Builtin) (tys:List TypeId) (args:List AV):Option Res:=
 match b,tys,args with
 | .len,t :: _,[x]=>(lenA T S t x).map .pure
 | .append,[t,t'],[s,x]=>if t=t' then appendA T S t s x else none
 | .copy,[t,_],[d,s]=>copyA T S t d s
 | .min,_,x :: rest=>(minsA x rest).map .pure
 | .max,_,x :: rest=>(maxsA x rest).map .pure
 | .delete,t :: _,[m,k]=>deleteA T S t m k
 | _,_,_=>none
def astepO (T:Tab) (S:St) (ts:TS) (op:Op):Option Res:=
 match op with
 | .move x=>(aeval ts x).map .pure
 | .assign x=>(aeval ts x).map .pure
 | .pick c a b=>match aeval ts c with
  | some (.bool t)=>(if t then aeval ts a else aeval ts b).map .pure
  | _=>none
 | .alloc e=>allocA T e
 | .box e x=>(aeval ts x).map boxA
 | .build t ps=>(evP ts ps.toList).bind fun ps=>(buildA T t ps).map .pure
 | .buildSlice t n ps=>(evP ts ps.toList).bind fun ps=>(zAe T t n ps).map .pure
 | .load t a=>(aeval ts a).bind fun p=>(loadA T S t p).map .pure
 | .store t a v=>(aeval ts a).bind fun p=>(aeval ts v).bind fun x=>storeA T S t p x
 | .nilCheck x=>(aeval ts x).bind fun p=>(zEh p).map .pure
 | .binOp op t x y _=>(aeval ts x).bind fun p=>(aeval ts y).bind fun q=>(binA T op t p q).map .pure
 | .unOp op _ x=>(aeval ts x).bind fun p=>(unA op p).map .pure
 | .convert s d x=>(aeval ts x).bind fun p=>match convA T s d p with
  | some v=>some (.pure v)
  | none=>zCc T S s d p
 | .makeInterface t x=>match descOf T t with
  | some d=>if isIface d then none else (aeval ts x).map fun v=>.pure (.iface t v)
  | none=>none
 | .makeFunc fn f c=>(evs ts f.toList).bind fun f=>(evs ts c.toList).map fun c=>.pure (.func fn f c)
 | .makeMap _ none=>some makeMapA
 | .makeSlice t l c=>(aeval ts l).bind fun l=>(aeval ts c).bind fun c=>zCe T t l c
 | .slice t x lo hi mx=>(aeval ts x).bind fun p=>(evO ts lo).bind fun lo=>(evO ts hi).bind fun hi=>(evO ts mx).bind fun mx=>(sliceA T t p lo hi mx).map .pure
 | .fieldAddr s x f=>(aeval ts x).bind fun p=>(zAb T s p f).map .pure
 | .field t x f=>(aeval ts x).bind fun p=>(fieldA T t p f).map .pure
 | .indexAddr t x i=>(aeval ts x).bind fun p=>(aeval ts i).bind fun q=>(zAo T t p q).map .pure
 | .index t x i=>(aeval ts x).bind fun p=>(aeval ts i).bind fun q=>(indexA T t p q).map .pure
 | .lookup t x i ok=>(aeval ts x).bind fun p=>(aeval ts i).bind fun q=>(lookupA T S t p q ok).map .pure
 | .mapUpdate t m k v=>(aeval ts m).bind fun m=>(aeval ts k).bind fun k=>(aeval ts v).bind fun v=>zAz T S t m k v
 | .range t x=>(aeval ts x).bind fun p=>rangeA T t p
 | .next it true=>(aeval ts it).bind fun p=>nextA S p
 | .typeAssert x _ t ok=>(aeval ts x).bind fun p=>(zAx T p t ok).map .pure
 | .extract x i=>(aeval ts x).bind fun p=>(zAc p i).map .pure
 | .call { callee:=.builtin b,args,argTypes }=>(evs ts args.toList).bind fun vs=>zAa T S b argTypes.toList vs
 | _=>none
def astep (T:Tab) (S:St) (ts:TS) (o:Oper):Option Res:=astepO T S ts o.op
def Yields (P:Program) (a:Act) (o:Oper) (w:World) (v:Value) (w':World):Prop:=
 (execOp a.eval o).run P w=.ok (.value v) w'∨((execOp a.eval o).run P w=.ok .skip w'∧v=Go.undef)
theorem astep_ok {P:Program} {T:Tab} (hT:T.Ok P) {c:Cx} {S:St} {w:World} (h:StRel c S w) {ts:TS} {a:Act} (ht:TsRel c ts a.tmps) {o:Oper} {r:Res} (e:astep T S ts o=some r) (hok:r.ok S) :
  ∃ v w',Yields P a o w v w'∧Post c S r v w':=by
 have vp:∀ {s:Sem Value} {x:AV},(do pure (Next.value (← s)):Sem Next)=execOp a.eval o→(∃ u,s.run P w=.ok u w∧VRel c x u) → ∃ v w',Yields P a o w v w'∧Post c S (.pure x) v w':=by
  intro s x hs ⟨u,h1,h2⟩
  refine ⟨u,w,.inl ?_,Post.same h h2⟩
  rw [← hs];simp only [yV,h1,yU,yW]
 have vr:∀ {s:Sem Value} {r:Res},(do pure (Next.value (← s)):Sem Next)=execOp a.eval o→(∃ u w',s.run P w=.ok u w'∧Post c S r u w') → ∃ v w',Yields P a o w v w'∧Post c S r v w':=by
  intro s r hs ⟨u,w',h1,h2⟩
  refine ⟨u,w',.inl ?_,h2⟩
  rw [← hs];simp only [yV,h1,yU,yW]
 have vu:∀ {s:Sem Unit} {r:Res},(do s;pure Next.skip:Sem Next)=execOp a.eval o→(∃ w',s.run P w=.ok () w'∧Post c S r Go.undef w') → ∃ v w',Yields P a o w v w'∧Post c S r v w':=by
  intro s r hs ⟨w',h1,h2⟩
  refine ⟨Go.undef,w',.inr ⟨?_,rfl⟩,h2⟩
  rw [← hs];simp only [yV,h1,yU,yW]
 obtain ⟨dst,op,type,pos,after,guard⟩:=o
 unfold astep astepO at e
 split at e
 all_goals first | (cases e;done) | (rename_i hop;simp only at hop;subst hop)
 ·simp only [zK] at e;obtain ⟨v,h1,rfl⟩:=e
  exact ⟨_,w,.inl rfl,Post.same h (zAh ht h1)⟩
 ·simp only [zK] at e;obtain ⟨v,h1,rfl⟩:=e
  exact ⟨_,w,.inl rfl,Post.same h (zAh ht h1)⟩
 ·rename_i cc x y
  split at e
  ·rename_i t h1
   have hc:=zAh ht h1
   simp only [zK] at e;obtain ⟨v,h2,rfl⟩:=e
   refine ⟨if t then a.eval x else a.eval y,w,.inl ?_,Post.same h ?_⟩
   ·generalize hq:a.eval cc=q at hc
    cases hc
    simp only [execOp,hq,asBool,yV,yW,yU]
   ·cases t
    ·exact zAh ht h2
    ·exact zAh ht h2
  ·cases e
 ·exact vr rfl (alloc_ok hT h e)
 ·simp only [zK] at e;obtain ⟨v,h1,rfl⟩:=e
  exact vr rfl (box_ok h _ (zAh ht h1))
 ·simp only [zQ,zK] at e;obtain ⟨ps,h1,v,h2,rfl⟩:=e
  exact vp rfl (build_ok hT h (by simpa using evP_ok ht _ _ h1) h2)
 ·simp only [zQ,zK] at e;obtain ⟨ps,h1,v,h2,rfl⟩:=e
  exact vr rfl (buildSlice_ok hT h (by simpa using evP_ok ht _ _ h1) h2)
 ·simp only [zQ,zK] at e;obtain ⟨p,h1,v,h2,rfl⟩:=e
  exact vp rfl (loadA_ok hT h (zAh ht h1) h2)
 ·simp only [zQ] at e;obtain ⟨p,h1,x,h2,h3⟩:=e
  exact vu rfl (store_ok hT h (zAh ht h1) (zAh ht h2) h3)
 ·rename_i x
  simp only [zQ,zK] at e;obtain ⟨p,h1,v,h2,rfl⟩:=e
  have hx:=zAh ht h1
  refine ⟨a.eval x,w,.inl ?_,Post.same h ?_⟩
  ·generalize hq:a.eval x=q at hx
   unfold zEh at h2
   split at h2 <;> simp only [yT,reduceCtorEq] at h2 <;> cases hx <;> simp only [execOp,hq,yW]
  ·unfold zEh at h2
   split at h2 <;> simp only [yT,reduceCtorEq] at h2 <;> subst h2 <;> exact hx
 ·simp only [zQ,zK] at e;obtain ⟨p,h1,q,h2,v,h3,rfl⟩:=e
  exact vp rfl (bin_ok hT (zAh ht h1) (zAh ht h2) h3 _ _)
 ·simp only [zQ,zK] at e;obtain ⟨p,h1,v,h2,rfl⟩:=e
  exact vp rfl (un_ok (zAh ht h1) h2)
 ·simp only [zQ] at e;obtain ⟨p,h1,h2⟩:=e
  split at h2
  ·rename_i v h3
   simp only [yT] at h2;subst h2
   exact vp rfl (conv_ok hT (zAh ht h1) h3)
  ·exact vr rfl (convMem_ok hT h (zAh ht h1) h2)
 ·rename_i t x
  split at e
  ·rename_i d hd
   split at e
   ·cases e
   ·rename_i hni
    simp only [zK] at e;obtain ⟨v,h1,rfl⟩:=e
    refine vp rfl ⟨.iface t (a.eval x), ?_,.iface _ _ _ (zAh ht h1)⟩
    simp only [Instr.makeInterface,yV,run_underlying (zAm hT hd),yU]
    cases d <;> simp [isIface] at hni <;> rfl
  ·cases e
 ·rename_i fn f cc
  simp only [zQ,zK] at e;obtain ⟨f',h1,c',h2,rfl⟩:=e
  have hf:=evs_ok ht _ _ h1
  have hc:=evs_ok ht _ _ h2
  refine vp rfl ⟨.func fn (f.map a.eval) (cc.map a.eval),rfl,.func _ _ _ _ _ (by have:=hf.1;simpa using this) (by have:=hc.1;simpa using this) (fun j x v hx hv=>hf.2 j x v hx (by simpa using hv)) (fun j x v hx hv=>hc.2 j x v hx (by simpa using hv))⟩
 ·simp only [yT] at e;subst e
  exact vr rfl (makeMap_ok h _)
 ·simp only [zQ] at e;obtain ⟨p,h1,x,h2,h3⟩:=e
  exact vr rfl (makeSlice_ok hT h (zAh ht h1) (zAh ht h2) h3)
 ·simp only [zQ,zK] at e;obtain ⟨p,h1,lo,h2,hi,h3,mx,h4,v,h5,rfl⟩:=e
  exact vp rfl (slice_ok hT (zAh ht h1) (evO_ok ht h2) (evO_ok ht h3) (evO_ok ht h4) h5)
 ·simp only [zQ,zK] at e;obtain ⟨p,h1,v,h2,rfl⟩:=e
  exact vp rfl (fieldAddr_ok hT (zAh ht h1) h2)
 ·simp only [zQ,zK] at e;obtain ⟨p,h1,v,h2,rfl⟩:=e
  exact vp rfl (field_ok hT (zAh ht h1) h2)
 ·simp only [zQ,zK] at e;obtain ⟨p,h1,q,h2,v,h3,rfl⟩:=e
  exact vp rfl (indexAddr_ok hT (zAh ht h1) (zAh ht h2) h3)
 ·simp only [zQ,zK] at e;obtain ⟨p,h1,q,h2,v,h3,rfl⟩:=e
  exact vp rfl (index_ok hT (zAh ht h1) (zAh ht h2) h3)
 ·simp only [zQ,zK] at e;obtain ⟨p,h1,q,h2,v,h3,rfl⟩:=e
  exact vp rfl (lookup_ok hT h (zAh ht h1) (zAh ht h2) h3)
 ·simp only [zQ] at e;obtain ⟨m,h1,k,h2,v,h3,h4⟩:=e
  exact vu rfl (mapUpdate_ok hT h (zAh ht h1) (zAh ht h2) (zAh ht h3) h4)
 ·simp only [zQ] at e;obtain ⟨p,h1,h2⟩:=e
  exact vr rfl (range_ok hT h (zAh ht h1) h2)
 ·simp only [zQ] at e;obtain ⟨p,h1,h2⟩:=e
  exact vr rfl (next_ok h (zAh ht h1) h2)
 ·simp only [zQ,zK] at e;obtain ⟨p,h1,v,h2,rfl⟩:=e
  exact vp rfl (typeAssert_ok hT (zAh ht h1) h2)
 ·simp only [zQ,zK] at e;obtain ⟨p,h1,v,h2,rfl⟩:=e
  exact vp rfl (extract_ok (zAh ht h1) h2)
 ·rename_i b args argTypes
  simp only [zQ] at e;obtain ⟨vs,h1,h2⟩:=e
  have hv:=evs_ok ht _ _ h1
  have hr:∀ {s:Sem Value},(execOp a.eval { dst,op:=.call { callee:=.builtin b,args,argTypes },type,pos,after,guard })=(do pure (Next.value (← s)))→(∃ u w',s.run P w=.ok u w'∧Post c S r u w') → ∃ v w',Yields P a { dst,op:=.call { callee:=.builtin b,args,argTypes },type,pos,after,guard } w v w'∧Post c S r v w':=fun hs hh=>vr hs.symm hh
  have hargs:(args.map a.eval)=(args.toList.map a.eval).toArray:=by apply Array.ext';simp
  have htys:argTypes=argTypes.toList.toArray:=by simp
  unfold zAa at h2
  split at h2
  ·rename_i t tl x heq
   simp only [zK] at h2;obtain ⟨v,h3,rfl⟩:=h2
   obtain ⟨u,us,hus,hu1,hu2⟩:=hv.tail
   have:us=[]:=by have:=hu2.1;cases us <;> simp_all
   subst this
   refine hr (s:=Builtin.len_ argTypes type #[u]) (by simp only [execOp,resolve,hargs,hus];rfl) ?_
   obtain ⟨q,hq1,hq2⟩:=len_ok (P:=P) (ty:=type) hT h (ts:=argTypes) (t:=t) (by rw [htys,heq];rfl) hu1 h3
   exact ⟨q,w,hq1,Post.same h hq2⟩
  ·rename_i t t' s x heq
   split at h2
   ·rename_i htt;subst htt
    obtain ⟨u,us,hus,hu1,hu2⟩:=hv.tail
    obtain ⟨u',us',rfl,hu3,hu4⟩:=hu2.tail
    have:us'=[]:=by have:=hu4.1;cases us' <;> simp_all
    subst this
    refine hr (s:=Builtin.append_ #[t,t] type #[u,u']) (by rw [htys,heq];simp only [execOp,resolve,hargs,hus];rfl) ?_
    exact append_ok hT h hu1 hu3 h2 hok
   ·cases h2
  ·rename_i t t' d s heq
   obtain ⟨u,us,hus,hu1,hu2⟩:=hv.tail
   obtain ⟨u',us',rfl,hu3,hu4⟩:=hu2.tail
   have:us'=[]:=by have:=hu4.1;cases us' <;> simp_all
   subst this
   refine hr (s:=Builtin.copy_ #[t,t'] type #[u,u']) (by rw [htys,heq];simp only [execOp,resolve,hargs,hus];rfl) ?_
   exact copy_ok hT h hu1 hu3 h2
  ·rename_i tl x rest
   simp only [zK] at h2;obtain ⟨v,h3,rfl⟩:=h2
   obtain ⟨u,us,hus,hu1,hu2⟩:=hv.tail
   refine hr (s:=Builtin.min_ argTypes type (u :: us).toArray) (by simp only [execOp,resolve,hargs,hus];rfl) ?_
   obtain ⟨q,hq1,hq2⟩:=mins_ok (P:=P) (w:=w) _ _ _ _ _ hu1 hu2 h3
   exact ⟨q,w,hq1,Post.same h hq2⟩
  ·rename_i tl x rest
   simp only [zK] at h2;obtain ⟨v,h3,rfl⟩:=h2
   obtain ⟨u,us,hus,hu1,hu2⟩:=hv.tail
   refine hr (s:=Builtin.max_ argTypes type (u :: us).toArray) (by simp only [execOp,resolve,hargs,hus];rfl) ?_
   obtain ⟨q,hq1,hq2⟩:=maxs_ok (P:=P) (w:=w) _ _ _ _ _ hu1 hu2 h3
   exact ⟨q,w,hq1,Post.same h hq2⟩
  ·rename_i t tl m k heq
   obtain ⟨u,us,hus,hu1,hu2⟩:=hv.tail
   obtain ⟨u',us',rfl,hu3,hu4⟩:=hu2.tail
   have:us'=[]:=by have:=hu4.1;cases us' <;> simp_all
   subst this
   refine hr (s:=Builtin.delete_ argTypes type #[u,u']) (by simp only [execOp,resolve,hargs,hus];rfl) ?_
   exact delete_ok hT h (by rw [htys,heq];rfl) hu1 hu3 h2
  ·cases h2
def appB (T:Tab) (S:St) (ts:TS) (o:Op):Option Res:=
 match o with
 | .call { callee:=.builtin .append,args,argTypes }=>match evs ts args.toList,argTypes.toList with
  | some [.nilS,x],[t,t']=>if t=t' then appNewA T S t x else none
  | _,_=>none
 | _=>none
theorem appB_ok {P:Program} {T:Tab} (hT:T.Ok P) {c:Cx} {S:St} {w:World} (h:StRel c S w) {ts:TS} {a:Act} (ht:TsRel c ts a.tmps) {o:Oper} {r:Res} (e:appB T S ts o.op=some r) :
  ∃ v w',Yields P a o w v w'∧Post c S r v w':=by
 obtain ⟨dst,op,type,pos,after,guard⟩:=o
 unfold appB at e
 split at e
 ·rename_i args argTypes hop
  simp only at hop;subst hop
  split at e
  ·rename_i x t t' h1 heq
   split at e
   ·rename_i htt;subst htt
    have hv:=evs_ok ht _ _ h1
    have hargs:(args.map a.eval)=(args.toList.map a.eval).toArray:=by apply Array.ext';simp
    have htys:argTypes=argTypes.toList.toArray:=by simp
    obtain ⟨u,us,hus,hu1,hu2⟩:=hv.tail
    obtain ⟨u',us',rfl,hu3,hu4⟩:=hu2.tail
    have:us'=[]:=List.length_eq_zero_iff.1 hu4.1.symm
    subst this
    obtain ⟨v,w',hrun,hp⟩:=appNew_ok (ty:=type) hT h hu1 hu3 e
    refine ⟨v,w',.inl ?_,hp⟩
    have hs:(do pure (Next.value (← Builtin.append_ #[t,t] type #[u,u'])):Sem Next)=execOp a.eval { dst,op:=.call { callee:=.builtin .append,args,argTypes },type,pos,after,guard }:=by
     rw [htys,heq];simp only [execOp,resolve,hargs,hus];rfl
    rw [← hs];simp only [yV,hrun,yU,yW]
   ·cases e
  ·cases e
 ·cases e
end Go.Av
end
