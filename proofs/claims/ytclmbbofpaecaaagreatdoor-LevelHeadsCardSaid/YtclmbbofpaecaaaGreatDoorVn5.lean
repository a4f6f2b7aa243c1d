/- Part 5 of the proof. -/
import Derived.Test.YtclmbbofpaecaaaGreatDoorVn4
set_option linter.all false
set_option linter.unusedVariables false
set_option linter.unusedSimpArgs false
set_option linter.unusedSectionVars false
open Array renaming getD_eq_getD_getElem? → zZ, getElem?_eq_getElem → qA, getElem?_append_left → yR
open Bool renaming false_eq_true → zS, and_eq_true → zT
open List renaming getElem?_eq_none → zN, getElem?_map → qK, getElem?_range → qR, flatMap_cons → qW, all_eq_true → yG
open Nat renaming le_refl → zM, lt_or_ge → zU
open Option renaming map_eq_some_iff → zK, getD_some → qD, bind_some → qT
open Option.some renaming injEq → yT
open Go.Result renaming andThen_ok → yU
open Go.Sem renaming run_bind → yV
open Go.Sem renaming run_pure → yW
section
namespace Go.Av
open Go
def Res.app (S:St):Res→AV × St
  | .pure v=>(v,S)
  | .alloc B mk=>(mk S.heap.length,{ S with heap:=S.heap ++ [some B] })
  | .tok kill mk=>(mk S.nt,{ S with toks:=S.nt :: killTok S.toks kill,nt:=S.nt+1 })
  | .write i B v=>(v,S.put i B)
theorem put_len (S:St) (B:Blk):S.put S.heap.length B={ S with heap:=S.heap ++ [some B] }:=by
  simp only [St.put]
  rw [show S.heap.length+1 - S.heap.length=1 by omega]
  simp
theorem Post.app {c:Cx} {S:St} {w:World} (h:StRel c S w) {r:Res} {v:Value} {w':World} (hp:Post c S r v w'):∃ c',c.le c'∧StRel c' (r.app S).2 w'∧VRel c' (r.app S).1 v:=by
  cases r with
  | pure x=>obtain ⟨c',h1,_,_,h2,h3⟩:=hp;exact ⟨c',h1,h2,h3⟩
  | alloc B mk =>
    obtain ⟨c',h1,_,_,h2,h3⟩:=hp S.heap.length (by
      cases hm:c.μ S.heap.length with
      | none=>rfl
      | some n=>exact absurd (h.dom _ _ hm).1 (Nat.lt_irrefl _)) (fun B' hB=>by
      rw [zN (zM _)] at hB;cases hB)
    rw [put_len] at h2
    exact ⟨c',h1,h2,h3⟩
  | tok kill mk =>
    obtain ⟨c',h1,_,_,h2,h3⟩:=hp S.nt (by
      cases hm:c.τ S.nt with
      | none=>rfl
      | some n=>exact absurd (h.tdom _ _ hm).1 (Nat.lt_irrefl _))
    rw [show max S.nt (S.nt+1)=S.nt+1 by omega] at h2
    exact ⟨c',h1,h2,h3⟩
  | write i B x=>obtain ⟨c',h1,_,_,h2,h3⟩:=hp;exact ⟨c',h1,h2,h3⟩
inductive AEnd where
  | ret (v:AV)
  | panic (v:AV)
def EndRel (c:Cx):AEnd→Ending→Prop
  | .ret v,.returned x=>VRel c v x
  | .panic v,.panicked chain => ∃ x,chain=[{ v:=x,recovered:=false }]∧VRel c v x
  | _,_=>False
def AC (P:Program) (f:FuncId) (args:List AV) (S:St) (R:AEnd→St→Prop):Prop:=
  ∀ c w vs,StRel c S w→LRel c args vs→Calls P f vs.toArray w fun e w' => ∃ ae S' c',c.le c'∧R ae S'∧EndRel c' ae e∧StRel c' S' w'
def PC (P:Program) (f:FuncId) (args:List AV) (r:Res):Prop:=
  ∀ c S w vs,StRel c S w→LRel c args vs→Calls P f vs.toArray w fun e w' => ∃ x,e=.returned x∧Post c S r x w'
theorem AC.mono {P:Program} {f:FuncId} {args:List AV} {S:St} {R R':AEnd→St→Prop} (h:AC P f args S R) (hr:∀ e S',R e S'→R' e S'):AC P f args S R':=
  fun c w vs hs hl=>(h c w vs hs hl).mono fun _ _ ⟨ae,S',c',h1,h2,h3,h4⟩=>⟨ae,S',c',h1,hr _ _ h2,h3,h4⟩
theorem PC.ac {P:Program} {f:FuncId} {args:List AV} {r:Res} (h:PC P f args r) (S:St):AC P f args S fun e S'=>e=.ret (r.app S).1∧S'=(r.app S).2:=
  fun c w vs hs hl=>(h c S w vs hs hl).mono fun e w' ⟨x,he,hp⟩ =>
    let ⟨c',h1,h2,h3⟩:=Post.app hs hp
    ⟨.ret (r.app S).1,(r.app S).2,c',h1,⟨rfl,rfl⟩,by subst he;exact h3,h2⟩
def Sub (v v':AV):Prop:=∀ c x,VRel c v x→VRel c v' x
def SubL (l l':List AV):Prop:=∀ c vs,LRel c l vs→LRel c l' vs
theorem Sub.refl (v:AV):Sub v v:=fun _ _ h=>h
theorem SubL.refl (l:List AV):SubL l l:=fun _ _ h=>h
theorem SubL.cons {v v':AV} {l l':List AV} (h:Sub v v') (h':SubL l l'):SubL (v :: l) (v' :: l'):=by
  intro c vs hl
  obtain ⟨u,us,rfl,h1,h2⟩:=hl.tail
  exact LRel.cons (h c u h1) (h' c us h2)
theorem Sub.unk (l:List AV) (n:Nat) (t:Tail):Sub (.slice l n t) (.slice l n .unk):=by
  intro c x h
  cases h with
  | slice _ _ _ b off cap vs hc hk hr he ht=>exact .slice l n .unk b off cap vs hc hk hr (fun e=>by cases e) (fun k e=>by cases e)
  | sliceNil _ ht=>exact .sliceNil .unk (fun k e=>by cases e)
theorem Sub.nil:Sub .nilS (.slice [] 0 .unk):=by
  intro c x h
  cases h
  exact .sliceNil .unk (fun k e=>by cases e)
theorem Sub.agg {l l':List AV} (h:SubL l l'):Sub (.agg l) (.agg l'):=by
  intro c x hx
  obtain ⟨vs,rfl,hl⟩:=hx.of_agg
  exact VRel.mk_agg (h c _ hl)
structure Callable (P:Program) (f:FuncId):Prop where
  ok:∃ fn,P.funcs[f]? = some fn∧(fn.name == "runtime.NumGoroutine")=false∧fn.body.isNone=false
inductive AExit where
  | normal
  | exit (id:Nat)
  | ret
  | panic (v:AV)
def XRel (c:Cx):AExit→Exit→Prop
  | .normal,.normal=>True
  | .exit i,.exit j=>i=j
  | .ret,.ret=>True
  | .panic v,.panic chain => ∃ x,chain=[{ v:=x,recovered:=false }]∧VRel c v x
  | _,_=>False
abbrev AQ:=AExit→TS→St→Prop
structure Env where
  P:Program
  T:Tab
  M:TypeId→String→Option FuncId
  N:Nat
  base:Nat
  bt:Nat
  R:Option Nat:=none
  Y:Nat→List AV→St→(AV→St→Prop)→Prop:=fun _ _ _ _=>False
  C:Cx→Prop:=fun _=>True
  K:Bool:=true
def Env.F (E:Env):Fence:={ Fence.wide with round:=E.R }
theorem Env.F_wide {E:Env} (h:E.R=none):E.F=Fence.wide:=by simp [Env.F,h,Fence.wide]
theorem zEi {E:Env} {n:Nat} {P:Program} {f:FuncId} {args:Array Value} {w:World} {Q:Ending→World→Prop} (h:Calls P f args w Q):CallsIn E.F n P f args w Q:=
  (callsIn_wide (n:=n)).2 h
def YieldW (P:Program) (l:Nat) (vs:List Value) (w:World) (Φ:Value→World→Prop):Prop:=
  ∃ fn tmps assign body,(Instr.yield l vs.toArray).run P w=.ok (.round l fn tmps assign body) w∧RoundIn Fence.wide 0 P l fn tmps assign body w fun e w' => ∃ v,e=.returned v∧Φ v w'
structure Cx.leS (c c':Cx):Prop where
  K:∀ b o v,c.K b o=some v→c'.K b o=some v
  μ:∀ i n,c.μ i=some n→c'.μ i=some n
  τ:∀ i n,c.τ i=some n→c'.τ i=some n
  X:c'.X=c.X
  XO:∀ b ob,c.XO b=some ob→c'.XO b=some ob
  sz:c'.sz=c.sz
  FZ:c'.FZ=c.FZ
  μn:∀ i n,c'.μ i=some n→c.μ i=some n∨c.sz≤n
  τn:∀ k x,c'.τ k=some x→c.τ k=some x∨c.sz≤x.1 ∨ ∃ k0 y,c.τ k0=some y∧y.1=x.1
theorem Cx.le.S {c c':Cx} (h:c.le c'):c.leS c':=⟨h.K,h.μ,h.τ,h.X,fun b ob e=>by rw [h.XO];exact e,h.sz,h.FZ,h.μn,h.τn⟩
theorem Cx.leS.trans {a b c:Cx} (h:a.leS b) (h':b.leS c):a.leS c:=
  ⟨fun _ _ _ x=>h'.K _ _ _ (h.K _ _ _ x),fun _ _ x=>h'.μ _ _ (h.μ _ _ x),fun _ _ x=>h'.τ _ _ (h.τ _ _ x),h'.X.trans h.X,fun _ _ x=>h'.XO _ _ (h.XO _ _ x),h'.sz.trans h.sz,h'.FZ.trans h.FZ,
   fun i n x=>by
    rcases h'.μn i n x with y | y
    · exact h.μn i n y
    · exact .inr (h.sz ▸ y),
   fun k x y=>by
    rcases h'.τn k x y with z | z | ⟨k0,u,z,e⟩
    · exact h.τn k x z
    · exact .inr (.inl (h.sz ▸ z))
    · rcases h.τn k0 u z with z' | z' | ⟨k1,u',z',e'⟩
      · exact .inr (.inr ⟨k0,u,z',e⟩)
      · exact .inr (.inl (e ▸ z'))
      · exact .inr (.inr ⟨k1,u',z',e'.trans e⟩)⟩
def Cx.withXO (c:Cx) (f:Nat→Option Obj):Cx:={ c with XO:=f }
theorem VRel.withXO {c:Cx} {v:AV} {x:Value} (f:Nat→Option Obj) (h:VRel c v x):VRel (c.withXO f) v x:=VRel.mono3 (c:=c) (c':=c.withXO f) ⟨fun _ _ _ h=>h,fun _ _ h=>h,fun _ _ h=>h⟩ h
theorem BRel.withXO {c:Cx} {n:Nat} {w:World} {B:Blk} (f:Nat→Option Obj) (h:BRel c n w B) (hf:B.isObj→c.XO n=none→f n=none):BRel (c.withXO f) n w B:=by
  cases B with
  | cells l=>exact fun o x hx=>let ⟨a1,a2,a3,v,a4,a5⟩:=h o x hx;⟨a1,a2,a3,v,a4,a5.withXO f⟩
  | map es=>obtain ⟨h1,en,cl,h2,h3,h4⟩:=h;exact ⟨hf trivial h1,en,cl,h2,h3,fun j kv e a b=>⟨(h4 j kv e a b).1.withXO f,(h4 j kv e a b).2.withXO f⟩⟩
  | siter s p=>exact ⟨hf trivial h.1,h.2⟩
  | loop r=>exact ⟨hf trivial h.1,h.2⟩
theorem StRel.withXO {c:Cx} {S:St} {w:World} (h:StRel c S w) (f:Nat→Option Obj) (hf:∀ b ob,f b=some ob→w.heap[b]? = some ob ∧ ∀ cs t g,ob ≠ .cells cs t g) (hn:∀ i n B,S.heap[i]? = some (some B)→c.μ i=some n→B.isObj→c.XO n=none→f n=none):StRel (c.withXO f) S w:=
  { sz:=h.sz,tab:=h.tab,tsh:=h.tsh,fr:=h.fr,K:=h.K,X:=h.X,XO:=hf,F:=h.F,dom:=h.dom,tdom:=h.tdom,inj:=h.inj,tok:=h.tok,tinj:=h.tinj,tblk:=h.tblk,tfr:=h.tfr
    blk:=fun i B e=>let ⟨n,h1,h2⟩:=h.blk i B e;⟨n,h1,h2.withXO f (hn i n B e h1)⟩ }
theorem Cx.leS.back {c c':Cx} (h:c.leS c'):c.le (c'.withXO c.XO):=⟨h.K,h.μ,h.τ,h.X,rfl,h.sz,h.FZ,h.μn,h.τn⟩
theorem Chg.putObj {w:World} {D:Nat} {o o':Obj} (h:w.heap[D]? = some o) (ho:∀ cs t g,o ≠ .cells cs t g) (ho':∀ cs t g,o' ≠ .cells cs t g):Chg w (w.putObj D o') (fun _ _=>False) (fun b=>b=D):=by
  have hD:D<w.heap.size:=(Array.getElem?_eq_some_iff.1 h).1
  have hc:∀ b o2 v,w.cell? ⟨b,o2,none⟩=some v→(w.putObj D o').cell? ⟨b,o2,none⟩=some v:=by
    intro b o2 v hv
    have hne:b≠D:=by
      intro e;subst e
      unfold World.cell? at hv
      simp only [h] at hv
      split at hv
      · rename_i c t g e;simp only [yT] at e;exact ho _ _ _ e
      · cases hv
    unfold World.cell? at hv ⊢
    simp only [World.putObj_heap_other hne]
    exact hv
  refine ⟨fun b o2 v hv _=>hc b o2 v hv,fun b o2 v hv=>⟨v,hc b o2 v hv⟩,fun b o2 hb => ?_,fun b ob hb _ hne=>by rw [World.putObj_heap_other hne];exact hb,by simp,fun b x hx => ?_,⟨rfl,rfl,fun b cs t fr e=>⟨cs, ?_,rfl⟩⟩⟩
  by_cases e:b=D
  · subst e
    unfold World.frozen?
    simp only [h,World.putObj_heap_same hD]
    have f1:∀ x:Obj,(∀ cs t g,x ≠ .cells cs t g)→(match (some x:Option Obj) with | some (.cells _ _ (lo,hi))=>(lo≤o2 && o2<hi:Bool) | _=>false)=false:=by
      intro x hx
      cases x <;> first | rfl | exact absurd rfl (hx _ _ _)
    exact (f1 o' ho').trans (f1 o ho).symm
  · unfold World.frozen?
    simp only [World.putObj_heap_other e]
  have hne:b≠D:=by
    intro e;subst e
    unfold World.shape? at hx;simp only [h] at hx
    cases o <;> simp at hx
    exact absurd rfl (ho _ _ _)
  unfold World.shape? at hx ⊢
  rw [World.putObj_heap_other hne];exact hx
  have hne:b≠D:=by
    intro x;subst x
    rw [h] at e;cases e
    exact ho _ _ _ rfl
  rw [World.putObj_heap_other hne];exact e
theorem StRel.dropHidden {c:Cx} {S:St} {w:World} {f:Nat→Option Obj} (h:StRel (c.withXO f) S w) {D:Nat} {o o':Obj} (hD:f D=some o) (ho':∀ cs t g,o' ≠ .cells cs t g) :
    StRel (c.withXO fun k=>if k=D then none else f k) S (w.putObj D o'):=by
  have hw:=h.XO D o hD
  have h1:StRel (c.withXO fun k=>if k=D then none else f k) S w:=by
    have:(c.withXO fun k=>if k=D then none else f k)=(c.withXO f).withXO (fun k=>if k=D then none else f k):=rfl
    rw [this]
    refine h.withXO _ (fun b ob e => ?_) fun i n B _ _ _ e => ?_
    · split at e
      · cases e
      · exact h.XO b ob e
    · have e:f n=none:=e
      simp only [e];split <;> rfl
  refine h1.chg (Chg.putObj hw.1 hw.2 ho') (fun _ _ hr=>hr.elim) (fun b hb => ?_) (fun i B n e1 e2=>⟨fun _ _ hr=>hr,fun hB hn => ?_⟩)
  · subst hb;show (if b=b then none else f b)=none;rw [if_pos rfl]
  · subst hn
    obtain ⟨n',e3,e4⟩:=h.blk i B e1
    have e2':(c.withXO f).μ i=some n:=e2
    rw [e2'] at e3;cases e3
    have hn:f n=none:=by
      cases B with
      | cells l=>exact hB.elim
      | map es=>exact e4.1
      | siter s p=>exact e4.1
      | loop r=>exact e4.1
    rw [hD] at hn;cases hn
theorem StRel.putHidden {c:Cx} {S:St} {w:World} {f:Nat→Option Obj} (h:StRel (c.withXO f) S w) {D:Nat} {o o':Obj} (hD:f D=some o) (ho':∀ cs t g,o' ≠ .cells cs t g) :
    StRel (c.withXO fun k=>if k=D then some o' else f k) S (w.putObj D o'):=by
  have h1:=h.dropHidden hD ho'
  have:(c.withXO fun k=>if k=D then some o' else f k)=(c.withXO fun k=>if k=D then none else f k).withXO (fun k=>if k=D then some o' else f k):=rfl
  rw [this]
  have hw:=h.XO D o hD
  refine h1.withXO _ (fun b ob e => ?_) fun i n B e1 e2 eB e3 => ?_
  · split at e
    · rename_i e';subst e'
      simp only [yT] at e;subst e
      exact ⟨World.putObj_heap_same (Array.getElem?_eq_some_iff.1 hw.1).1,ho'⟩
    · rename_i e'
      have:=h.XO b ob e
      exact ⟨by rw [World.putObj_heap_other e'];exact this.1,this.2⟩
  · have e3:(if n=D then none else f n)=none:=e3
    by_cases e:n=D
    · subst e
      exfalso
      obtain ⟨n',e4,e5⟩:=h.blk i B e1
      have e2':(c.withXO f).μ i=some n:=e2
      rw [e2'] at e4;cases e4
      have hn:f n=none:=by
        cases B with
        | cells l=>exact eB.elim
        | map es=>exact e5.1
        | siter s p=>exact e5.1
        | loop r=>exact e5.1
      rw [hD] at hn;cases hn
    · rw [if_neg e] at e3 ⊢;exact e3
theorem StRel.allocHidden {c:Cx} {S:St} {w:World} (h:StRel c S w) (o:Obj) (ho:∀ cs t g,o ≠ .cells cs t g) :
    StRel (c.withXO fun k=>if k=w.heap.size then some o else c.XO k) S (w.alloc o):=by
  have h1:StRel c S (w.alloc o):=h.alloc o
  refine h1.withXO _ (fun b ob e => ?_) fun i n B e1 e2 eB e3 => ?_
  · split at e
    · rename_i e';subst e'
      simp only [yT] at e;subst e
      exact ⟨World.alloc_heap_new w o,ho⟩
    · exact h1.XO b ob e
  · have:=(h.dom i n e2).2
    rw [if_neg (by omega)];exact e3
structure Env.Ok (E:Env):Prop where
  T:E.T.Ok E.P
  M:∀ t name f,E.M t name=some f → ∀ v w,(Go.method (E.P.types.size+Made.depth) t v name).run E.P w=Result.ok (f,v) w
  Cle:∀ c c':Cx,c.leS c'→E.C c→E.C c'
  Y:∀ (l:Nat) (args:List AV) (S:St) (K:AV→St→Prop) (c:Cx) (w:World) (vs:List Value),E.Y l args S K→E.C c→StRel c S w→LRel c args vs →
    YieldW E.P l vs w fun v w' => ∃ av S' c',c.le c'∧K av S'∧VRel c' av v∧StRel c' S' w'
def markD (D:Nat):Deferred:={ target:=.collected D,args:=#[] }
def Marks (k:Bool) (c0 c:Cx) (ds l:List Deferred):Prop:=∃ ms:List Nat,l=ms.map markD ++ ds∧ms.Nodup∧(∀ D∈ms,c.XO D=some (.deferred (some []))∧c0.XO D=none)∧(k=false→ms=[])
theorem Marks.nil (k:Bool) (c0 c:Cx) (ds:List Deferred):Marks k c0 c ds ds:=⟨[],rfl,List.nodup_nil,(fun _ h=>by cases h),fun _=>rfl⟩
theorem Marks.mono {k:Bool} {c0 c c':Cx} {ds l:List Deferred} (h:c.leS c') (hm:Marks k c0 c ds l):Marks k c0 c' ds l:=
  let ⟨ms,h1,h2,h3,h4⟩:=hm;⟨ms,h1,h2,fun D hD=>⟨h.XO _ _ (h3 D hD).1,(h3 D hD).2⟩,h4⟩
structure Sim (E:Env) (c0 c:Cx) (ds:List Deferred) (ts:TS) (S:St) (a:Act) (w:World):Prop where
  le:c0.leS c
  hC:E.C c0
  b0:(∀ i n,c0.μ i=some n→i<E.base) ∧ ∀ k x,c0.τ k=some x→k<E.bt
  st:StRel c S w
  ts:TsRel c ts a.tmps
  ds:Marks E.K c0 c ds a.defers
  size:a.tmps.size=E.N
def lft (E:Env) (c0:Cx) (ds:List Deferred) (Q:AQ):Exit→Act→World→Prop:=
  fun e a' w' => ∃ ae ts' S' c',XRel c' ae e∧Q ae ts' S'∧Sim E c0 c' ds ts' S' a' w'
def setT (ts:TS):Option Tmp→AV→TS
  | some d,v=>ts.set d v
  | none,_=>ts
def dstOk (N:Nat):Option Tmp→Bool
  | some d=>decide (d<N)
  | none=>true
theorem Sim.put {E:Env} {c0 c c':Cx} {ds:List Deferred} {ts:TS} {S S':St} {a:Act} {w w':World} (h:Sim E c0 c ds ts S a w) (hle:c.le c') (hst:StRel c' S' w') {dst:Option Tmp} {v:AV} {x:Value} (hv:VRel c' v x) (hd:dstOk E.N dst=true) :
    Sim E c0 c' ds (setT ts dst v) S' (a.put dst x) w':=by
  refine ⟨h.le.trans hle.S,h.hC,h.b0,hst, ?_, ?_, ?_⟩
  · intro d u hu
    cases dst with
    | none=>exact (h.ts d u hu).mono hle
    | some t =>
      have ht:t<a.tmps.size:=by rw [h.size];simpa [dstOk] using hd
      simp only [setT,TS.get_set] at hu
      simp only [Act.put,zZ,Array.getElem?_setIfInBounds]
      by_cases e:t=d
      · subst e
        simp only [if_true,yT] at hu
        subst hu
        simp only [ht,if_true,qD]
        exact hv
      · simp only [if_neg e] at hu ⊢
        have:=(h.ts d u hu).mono hle
        simpa [zZ] using this
  · cases dst <;> exact h.ds.mono hle.S
  · cases dst with
    | none=>exact h.size
    | some t=>simp only [Act.put,Array.size_setIfInBounds];exact h.size
def yieldedA (ops:Array Oper) (ts:TS) (j:Nat):Option (Option Bool):=
  match ((ops[j]?).bind (·.dst)).bind ts.get with
  | some (.bool b)=>some (some b)
  | some (.tuple _)=>some none
  | _=>none
def wantedA (ops:Array Oper) (ts:TS) (o:Oper):Option Bool:=
  match o.guard with
  | none=>some true
  | some (j,want)=>(yieldedA ops ts j).map (· == some want)
theorem zDp {E:Env} {c0 c:Cx} {ds:List Deferred} {ts:TS} {S:St} {a:Act} {w:World} (h:Sim E c0 c ds ts S a w) {ops:Array Oper} {o:Oper} {b:Bool} (hb:∀ (j:Nat) (oj:Oper),ops[j]? = some oj→dstOk E.N oj.dst=true) (e:wantedA ops ts o=some b):Region.wanted o (yielded ops a.tmps)=b:=by
  unfold wantedA at e
  unfold Region.wanted
  split at e
  · rename_i hg
    rw [hg];simpa using e
  · rename_i j want hg
    rw [hg]
    simp only [zK] at e
    obtain ⟨x,hx,rfl⟩:=e
    have:yielded ops a.tmps j=x:=by
      unfold yieldedA at hx
      unfold yielded
      cases hj:ops[j]? with
      | none=>simp [hj] at hx
      | some oj =>
        simp only [hj,qT] at hx ⊢
        cases hd:oj.dst with
        | none=>simp [hd] at hx
        | some d =>
          simp only [hd,qT] at hx ⊢
          have hdn:=hb j oj hj
          rw [hd] at hdn
          have hlt:d<a.tmps.size:=by rw [h.size];simpa [dstOk] using hdn
          split at hx
          · rename_i b' hb'
            simp only [yT] at hx;subst hx
            have:=h.ts d _ hb'
            rw [zZ,qA hlt,qD] at this
            rw [qA hlt]
            generalize a.tmps[d]=q at this
            cases this
            rfl
          · rename_i l' hb'
            simp only [yT] at hx;subst hx
            have:=h.ts d _ hb'
            rw [zZ,qA hlt,qD] at this
            rw [qA hlt]
            generalize a.tmps[d]=q at this
            cases this
            rfl
          · cases hx
    simp only [this]
def callee (E:Env) (ts:TS) (c:Call):Option (FuncId × List AV):=
 match c.callee with
 | .value f=>match aeval ts f,evs ts c.args.toList with
  | some (.func (.func g) first cap),some vs=>some (g,first ++ vs ++ cap)
  | _,_=>none
 | .invoke r name=>match aeval ts r,evs ts c.args.toList with
  | some (.iface t v),some vs=>(E.M t name).map fun g=>(g,v :: vs)
  | _,_=>none
 | .builtin _=>none
theorem zCi {P:Program} {f:FuncId} (h:Callable P f) (args:Array Value) (w:World):(callFunc f args).run P w=.ok (.enter f args) w:=by
 obtain ⟨fn,h1,h2,h3⟩:=h.ok
 simp only [callFunc,yV,run_program,yU,h1,h2,h3,zS,if_false,yW]
theorem callee_ok {E:Env} (hE:E.Ok) {c:Cx} {ts:TS} {a:Act} (h:TsRel c ts a.tmps) {cl:Call} {f:FuncId} {args:List AV} (hf:Callable E.P f) (e:callee E ts cl=some (f,args)) (o:Oper) (ho:o.op=.call cl) (w:World) :
  ∃ vs,(execOp a.eval o).run E.P w=.ok (.enter f vs.toArray) w∧LRel c args vs:=by
 have hop:execOp a.eval o=(do let d ← resolve a.eval cl o.type;invoke d.target d.args):=by
  simp only [execOp,ho]
 rw [hop]
 unfold callee at e
 split at e
 ·rename_i fo hc
  split at e
  ·rename_i g first cap vs h1 h2
   simp only [yT,Prod.mk.injEq] at e
   obtain ⟨rfl,rfl⟩:=e
   have hfv:=zAh h h1
   have hvs:=evs_ok h _ _ h2
   generalize hq:a.eval fo=q at hfv
   cases hfv with
   | func _ _ _ f2 c2 hl hl' hff hcc =>
    refine ⟨f2.toList ++ cl.args.toList.map a.eval ++ c2.toList, ?_,((LRel.append ⟨by simpa using hl,fun j x v hx hv=>hff j x v hx (by simpa using hv)⟩ hvs).append ⟨by simpa using hl',fun j x v hx hv=>hcc j x v hx (by simpa using hv)⟩)⟩
    simp only [resolve,hc,hq,Deferred.ofValue,yV,yW,yU,invoke,zCi hf]
    congr 2
    apply Array.ext'
    simp
  ·cases e
 ·rename_i r name hc
  split at e
  ·rename_i t v vs h1 h2
   simp only [zK,Prod.mk.injEq] at e
   obtain ⟨g,hg,rfl,rfl⟩:=e
   have hrv:=zAh h h1
   have hvs:=evs_ok h _ _ h2
   generalize hq:a.eval r=q at hrv
   cases hrv with
   | iface _ _ x hx =>
    refine ⟨x :: cl.args.toList.map a.eval, ?_,LRel.cons hx hvs⟩
    have hm:=hE.M t name g hg x w
    have h0:(#[Value.iface t x] ++ Array.map a.eval cl.args)[0]? = some (.iface t x):=by rw [yR (show 0 < #[Value.iface t x].size from Nat.one_pos)];rfl
    have h5:(#[x] ++ (#[Value.iface t x] ++ Array.map a.eval cl.args).extract 1 (#[Value.iface t x] ++ Array.map a.eval cl.args).size)=(x :: cl.args.toList.map a.eval).toArray:=by
     apply Array.ext'
     simp
     rw [List.take_of_length_le (by simp)]
    simp only [resolve,hc,hq,yV,yW,yU,invoke,h0,callMethod,run_program,hm,zCi hf,h5]
  ·cases e
 ·cases e
def yieldee (ts:TS) (c:Call):Option (Nat × List AV):=
 match c.callee with
 | .value f=>match aeval ts f,evs ts c.args.toList with
  | some (.func (.yield l) [] []),some vs=>some (l,vs)
  | _,_=>none
 | _=>none
theorem yieldee_ok {P:Program} {c:Cx} {ts:TS} {a:Act} (h:TsRel c ts a.tmps) {cl:Call} {l:Nat} {args:List AV} (e:yieldee ts cl=some (l,args)) (o:Oper) (ho:o.op=.call cl) (w:World) :
  ∃ vs,(execOp a.eval o).run P w=(Instr.yield l vs.toArray).run P w∧LRel c args vs:=by
 have hop:execOp a.eval o=(do let d ← resolve a.eval cl o.type;invoke d.target d.args):=by
  simp only [execOp,ho]
 rw [hop]
 unfold yieldee at e
 split at e
 ·rename_i fo hc
  split at e
  ·rename_i l' vs h1 h2
   simp only [yT,Prod.mk.injEq] at e
   obtain ⟨rfl,rfl⟩:=e
   have hfv:=zAh h h1
   have hvs:=evs_ok h _ _ h2
   generalize hq:a.eval fo=q at hfv
   cases hfv with
   | func _ _ _ f2 c2 hl hl' hff hcc =>
    have hf2:f2=#[]:=by apply Array.ext';simpa using hl.symm
    subst hf2
    refine ⟨cl.args.toList.map a.eval, ?_,hvs⟩
    simp only [resolve,hc,hq,Deferred.ofValue,yV,yW,yU,invoke]
    congr 2
    apply Array.ext'
    simp
  ·cases e
 ·cases e
def WYield (E:Env) (l:Nat) (args:List AV) (S:St) (K:AV→St→Prop):Prop:=
 ∃ R,E.Y l args S R ∧ ∀ v S',R v S'→K v S'
def WCall (E:Env) (f:FuncId) (args:List AV) (S:St) (K:AV→St→Prop) (Kp:AV→St→Prop):Prop:=
 Callable E.P f ∧ ∃ args' R,SubL args args'∧AC E.P f args' S R∧(∀ v S',R (.ret v) S'→K v S')∧(∀ v S',R (.panic v) S'→Kp v S')
def contK (f:TS→St→Prop) (ts:TS) (dst:Option Tmp):AV→St→Prop:=fun v S'=>f (setT ts dst v) S'
def panK (Q:AQ) (ts:TS):AV→St→Prop:=fun v S'=>Q (.panic v) ts S'
def WOp0 (E:Env) (o:Oper) (ts:TS) (S:St) (K:AV→St→Prop) (Q:AQ):Prop:=
 match astep E.T S ts o with
 | some r=>r.ok S∧K (r.app S).1 (r.app S).2
 | none=>match o.op with
  | .call c=>match callee E ts c with
   | some (f,args)=>WCall E f args S K (panK Q ts)
   | none=>match yieldee ts c with
    | some (l,args)=>WYield E l args S K
    | none=>False
  | .panic x=>match aeval ts x with
   | some (.iface t v)=>Q (.panic (.iface t v)) ts S
   | _=>False
  | _=>False
def WOp (E:Env) (o:Oper) (ts:TS) (S:St) (K:AV→St→Prop) (Q:AQ):Prop:=
 WOp0 E o ts S K Q ∨ ∃ r,appB E.T S ts o.op=some r∧K (r.app S).1 (r.app S).2
def WOps (E:Env) (ops:Array Oper) (Q:AQ):List Oper→TS→St→Prop
 | [],ts,S=>Q .normal ts S
 | o :: rest,ts,S=>dstOk E.N o.dst=true ∧
  match wantedA ops ts o with
  | some true=>WOp E o ts S (contK (WOps E ops Q rest) ts o.dst) Q
  | some false=>WOps E ops Q rest (setT ts o.dst .undef) S
  | none=>False
def dstsOk (N:Nat) (ops:Array Oper):Bool:=ops.toList.all fun o=>dstOk N o.dst
theorem wops_step {E:Env} (hE:E.Ok) {ops:Array Oper} (hd:∀ (j:Nat) (oj:Oper),ops[j]? = some oj→dstOk E.N oj.dst=true) {Q:AQ} {c0:Cx} {ds:List Deferred} {o:Oper} {rest:List Oper} {i:Nat} {is:List Nat} {ts:TS} {S:St} {c:Cx} {a:Act} {w:World}
  (hi:ops[i]? = some o) (h:WOps E ops Q (o :: rest) ts S) (hs:Sim E c0 c ds ts S a w) (next:∀ ts' S' c' a' w',WOps E ops Q rest ts' S'→Sim E c0 c' ds ts' S' a' w'→wpOpsIn E.F 0 E.P ops (lft E c0 ds Q) is a' w') :
  wpOpsIn E.F 0 E.P ops (lft E c0 ds Q) (i :: is) a w:=by
   obtain ⟨hdo,h⟩:=h
   simp only [wpOpsIn,hi]
   split at h
   ·rename_i hw
    rw [if_pos (zDp hs hd hw)]
    rcases h with h | ⟨r,hr,h⟩
    rotate_left
    ·obtain ⟨v,w',hy,hp⟩:=appB_ok hE.T hs.st hs.ts hr
     obtain ⟨c',h1,h2,h3⟩:=Post.app hs.st hp
     have nx:=next _ _ c' (a.put o.dst v) w' h (hs.put h1 h2 h3 hdo)
     have hnd:∀ c,o.op ≠ .defer c:=fun cl hcl=>by rw [hcl] at hr;simp [appB] at hr
     unfold Oper.wpIn
     refine ⟨fun _ _=>trivial, ?_⟩
     rw [Oper.semAt_eq _ _ _ hnd]
     rcases hy with hy | ⟨hy,rfl⟩
     ·rw [hy];exact nx
     ·rw [hy];exact nx
    unfold WOp0 at h
    split at h
    ·rename_i r hr
     obtain ⟨hok,h⟩:=h
     obtain ⟨v,w',hy,hp⟩:=astep_ok hE.T hs.st hs.ts hr hok
     obtain ⟨c',h1,h2,h3⟩:=Post.app hs.st hp
     have nx:=next _ _ c' (a.put o.dst v) w' h (hs.put h1 h2 h3 hdo)
     have hnd:∀ c,o.op ≠ .defer c:=fun cl hcl=>by rw [astep,hcl] at hr;simp [astepO] at hr
     unfold Oper.wpIn
     refine ⟨fun _ _=>trivial, ?_⟩
     rw [Oper.semAt_eq _ _ _ hnd]
     rcases hy with hy | ⟨hy,rfl⟩
     ·rw [hy];exact nx
     ·rw [hy];exact nx
    ·split at h
     ·rename_i cl hop
      split at h
      ·rename_i f args hcl
       obtain ⟨hf,args',R,hsub,hac,hk,hkp⟩:=h
       obtain ⟨vs,hx,hvs⟩:=callee_ok hE hs.ts hf hcl o hop w
       unfold Oper.wpIn
       refine ⟨fun _ _=>trivial, ?_⟩
       rw [Oper.semAt_eq _ _ _ (fun c hc=>by rw [hop] at hc;cases hc),hx,Oper.uponIn_enter]
       refine ⟨fun hh=>by simp [Env.F,Fence.wide] at hh,zEi ((hac c w vs hs.st (hsub c vs hvs)).mono fun e w' ⟨ae,S',c',h1,h2,h3,h4⟩ => ?_)⟩
       cases ae with
       | ret v=>cases e with
        | returned x=>exact next _ _ c' (a.put o.dst x) w' (hk v S' h2) (hs.put h1 h4 h3 hdo)
        | panicked ch=>exact h3.elim
        | outgrown=>exact h3.elim
       | panic v=>cases e with
        | returned x=>exact h3.elim
        | panicked ch=>exact ⟨.panic v,ts,S',c',h3,hkp v S' h2,⟨hs.le.trans h1.S,hs.hC,hs.b0,h4,fun d u hu=>(hs.ts d u hu).mono h1,hs.ds.mono h1.S,hs.size⟩⟩
        | outgrown=>exact h3.elim
      ·split at h
       ·rename_i l args hcl
        obtain ⟨vs,hx,hvs⟩:=yieldee_ok (P:=E.P) hs.ts hcl o hop w
        obtain ⟨R,hY,hK⟩:=h
        obtain ⟨fn,tmps,assign,body,hy,hr⟩:=hE.Y l args S R c w vs hY (hE.Cle _ _ hs.le hs.hC) hs.st hvs
        unfold Oper.wpIn
        refine ⟨fun _ _=>trivial, ?_⟩
        rw [Oper.semAt_eq _ _ _ (fun c hc=>by rw [hop] at hc;cases hc),hx,hy,Oper.uponIn_round]
        refine ⟨fun hh=>by simp [Env.F,Fence.wide] at hh,(show RoundIn E.F 0 E.P l fn tmps assign body w _ from hr).mono fun e w' ⟨v,he,av,S',c',h1,h2,h3,h4⟩ => ?_⟩
        subst he
        exact next _ _ c' (a.put o.dst v) w' (hK _ _ h2) (hs.put h1 h4 h3 hdo)
       ·exact h.elim
     ·rename_i x hop
      split at h
      ·rename_i t v hv
       have hxv:=zAh hs.ts hv
       unfold Oper.wpIn
       refine ⟨fun _ _=>trivial, ?_⟩
       rw [Oper.semAt_eq _ _ _ (fun c hc=>by rw [hop] at hc;cases hc)]
       have hop':execOp a.eval o=(do pure (.value (← Instr.panic (a.eval x)))):=by simp only [execOp,hop]
       rw [hop']
       generalize hq:a.eval x=q at hxv
       cases hxv with
       | iface _ _ y hy =>
        have:(do pure (Next.value (← Instr.panic (.iface t y))):Sem Next).run E.P w=.halt (.panic (.iface t y)) w:=by simp [Instr.panic]
        rw [this,Oper.uponIn_panic]
        exact ⟨.panic (.iface t v),ts,S,c,⟨_,rfl,.iface _ _ _ hy⟩,h,hs⟩
      ·exact h.elim
     ·exact h.elim
   ·rename_i hw
    rw [if_neg (by rw [zDp hs hd hw];simp)]
    exact ⟨fun _ _=>trivial,next _ _ c (a.put o.dst Go.undef) w h (hs.put (Cx.le.refl c) hs.st (VRel.undef c) hdo)⟩
   ·exact h.elim
theorem wops_ok {E:Env} (hE:E.Ok) {ops:Array Oper} (hd:∀ (j:Nat) (oj:Oper),ops[j]? = some oj→dstOk E.N oj.dst=true) {Q:AQ} {c0:Cx} {ds:List Deferred}:∀ (l:List Oper) (is:List Nat) (ts:TS) (S:St) (c:Cx) (a:Act) (w:World),is.map (ops[·]?)=l.map some→WOps E ops Q l ts S→Sim E c0 c ds ts S a w →
  wpOpsIn E.F 0 E.P ops (lft E c0 ds Q) is a w
 | [],is,ts,S,c,a,w,hl,h,hs=>by
  have:is=[]:=by cases is <;> simp_all
  subst this
  exact ⟨.normal,ts,S,c,trivial,h,hs⟩
 | o :: rest,is,ts,S,c,a,w,hl,h,hs=>by
  cases is with
  | nil=>simp at hl
  | cons i is =>
   simp only [List.map_cons,List.cons.injEq] at hl
   obtain ⟨hi,hl'⟩:=hl
   exact wops_step hE hd hi h hs fun ts' S' c' a' w' h' hs'=>wops_ok hE hd rest is ts' S' c' a' w' hl' h' hs'
mutual
def AV.bnd (n k:Nat):AV→Bool
 | .ref i _=>decide (i<n)
 | .sref i _ _ _=>decide (i<n)
 | .map i=>decide (i<n)
 | .eptr l _=>bndL n k l
 | .slice l _ (.tok j)=>bndL n k l && decide (j<k)
 | .slice l _ _=>bndL n k l
 | .func _ a b=>bndL n k a && bndL n k b
 | .iface _ v=>v.bnd n k
 | .agg l=>bndL n k l
 | .tuple l=>bndL n k l
 | _=>true
def bndL (n k:Nat):List AV→Bool
 | []=>true
 | v :: l=>v.bnd n k && bndL n k l
end
def bndE (n k:Nat):List (AV × AV)→Bool
 | []=>true
 | e :: l=>e.1.bnd n k && e.2.bnd n k && bndE n k l
def Blk.bnd (n k:Nat):Blk→Bool
 | .cells l=>bndL n k l
 | .map es=>bndE n k es
 | .siter _ _=>true
 | .loop _=>true
theorem zBh {n k:Nat}:∀ {l:List AV} {j:Nat} {x:AV},bndL n k l=true→l[j]? = some x→x.bnd n k=true
 | [],j,x,_,h=>by simp at h
 | v :: l,0,x,hb,h=>by
  simp only [bndL,zT] at hb
  simp at h;subst h;exact hb.1
 | v :: l,j+1,x,hb,h=>by
  simp only [bndL,zT] at hb
  exact zBh hb.2 (by simpa using h)
theorem bndE_get {n k:Nat}:∀ {l:List (AV × AV)} {j:Nat} {x:AV × AV},bndE n k l=true→l[j]? = some x→x.1.bnd n k=true∧x.2.bnd n k=true
 | [],j,x,_,h=>by simp at h
 | v :: l,0,x,hb,h=>by
  simp only [bndE,zT] at hb
  simp at h;subst h;exact hb.1
 | v :: l,j+1,x,hb,h=>by
  simp only [bndE,zT] at hb
  exact bndE_get hb.2 (by simpa using h)
theorem bndL_append {n k:Nat} (l l':List AV):bndL n k (l ++ l')=(bndL n k l && bndL n k l'):=by
 induction l with
 | nil=>simp [bndL]
 | cons v l ih=>simp [bndL,ih,Bool.and_assoc]
theorem bndL_map {α:Type} {n k:Nat} (f:α→AV) (h:∀ a,(f a).bnd n k=true) (l:List α):bndL n k (l.map f)=true:=by
 induction l with
 | nil=>rfl
 | cons v l ih=>simp [bndL,ih,h]
theorem zBb {α:Type} {n k:Nat} (f:α→List AV) (h:∀ a,bndL n k (f a)=true) (l:List α):bndL n k (l.flatMap f)=true:=by
 induction l with
 | nil=>rfl
 | cons v l ih=>simp [qW,bndL_append,ih,h]
def Cx.cut (c:Cx) (n k:Nat):Cx:={ c with μ:=fun i=>if i<n then c.μ i else none,τ:=fun i=>if i<k then c.τ i else none }
theorem VRel.cut {c:Cx} {n k:Nat} {v:AV} {x:Value} (h:VRel c v x):v.bnd n k=true→VRel (c.cut n k) v x:=by
 induction h with
 | bool b=>intro _;exact .bool b
 | int kk m=>intro _;exact .int kk m
 | str s=>intro _;exact .str s
 | nilp=>intro _;exact .nilp
 | ref i o m hm=>intro hb;simp only [AV.bnd,decide_eq_true_eq] at hb;exact .ref i o m (by simp [Cx.cut,hb,hm])
 | eptr l o b off vs hk hr ih =>
  intro hb;simp only [AV.bnd] at hb
  exact .eptr l o b off vs hk (fun j x hx=>ih j x hx (zBh hb hx))
 | slice l m t b off cap vs hc hk hr he ht ih =>
  intro hb
  have hbl:bndL n k l=true:=by
   cases t <;> simp only [AV.bnd,zT] at hb
   ·exact hb
   ·exact hb
   ·exact hb.1
  refine .slice l m t b off cap vs hc hk (fun j x hx=>ih j x hx (zBh hbl hx)) he (fun j e => ?_)
  subst e
  simp only [AV.bnd,zT,decide_eq_true_eq] at hb
  obtain ⟨h0,z,h1,h2⟩:=ht j rfl
  exact ⟨h0,z,h1,by simp [Cx.cut,hb.2,h2]⟩
 | sliceNil t ht=>intro _;exact .sliceNil t ht
 | nilS=>intro _;exact .nilS
 | sref i o len cap m cap' hm hc=>intro hb;simp only [AV.bnd,decide_eq_true_eq] at hb;exact .sref i o len cap m cap' (by simp [Cx.cut,hb,hm]) hc
 | func fn f1 c1 f2 c2 hl hl' _ _ ih1 ih2 =>
  intro hb;simp only [AV.bnd,zT] at hb
  exact .func fn f1 c1 f2 c2 hl hl' (fun j x v hx hv=>ih1 j x v hx hv (zBh hb.1 hx)) (fun j x v hx hv=>ih2 j x v hx hv (zBh hb.2 hx))
 | nilFunc=>intro _;exact .nilFunc
 | iface t v x _ ih=>intro hb;simp only [AV.bnd] at hb;exact .iface t v x (ih hb)
 | nilIface=>intro _;exact .nilIface
 | agg l vs hl _ ih=>intro hb;simp only [AV.bnd] at hb;exact .agg l vs hl (fun j x v hx hv=>ih j x v hx hv (zBh hb hx))
 | tuple l vs hl _ ih=>intro hb;simp only [AV.bnd] at hb;exact .tuple l vs hl (fun j x v hx hv=>ih j x v hx hv (zBh hb hx))
 | map i m hm=>intro hb;simp only [AV.bnd,decide_eq_true_eq] at hb;exact .map i m (by simp [Cx.cut,hb,hm])
 | nilMap=>intro _;exact .nilMap
theorem BRel.cut {c:Cx} {n k m:Nat} {w:World} {B:Blk} (h:BRel c m w B) (hb:B.bnd n k=true):BRel (c.cut n k) m w B:=by
 cases B with
 | cells l =>
  intro o x hx
  obtain ⟨h1,h2,h3,v,h4,h5⟩:=h o x hx
  exact ⟨h1,h2,h3,v,h4,h5.cut (zBh hb hx)⟩
 | map es =>
  obtain ⟨h1,en,cl,h2,h3,h4⟩:=h
  exact ⟨h1,en,cl,h2,h3,fun j kv e a b=>⟨(h4 j kv e a b).1.cut (bndE_get hb a).1,(h4 j kv e a b).2.cut (bndE_get hb a).2⟩⟩
 | siter s pos=>exact h
 | loop r=>exact h
structure Gc (S S':St):Prop where
 len:S'.heap.length≤S.heap.length
 live:∀ (i:Nat) (B:Blk),S'.heap[i]? = some (some B)→S.heap[i]? = some (some B)∧B.bnd S'.heap.length S'.nt=true
 nt:S'.nt≤S.nt
 toks:∀ k∈S'.toks,k∈S.toks∧k<S'.nt
theorem StRel.cut {c:Cx} {S S':St} {w:World} (h:StRel c S w) (g:Gc S S'):StRel (c.cut S'.heap.length S'.nt) S' w where
 sz:=h.sz
 tab:=h.tab
 tsh:=h.tsh
 fr:=h.fr
 K:=h.K
 X:=h.X
 XO:=h.XO
 F:=h.F
 dom i n e:=by
  simp only [Cx.cut] at e
  split at e
  ·rename_i hi;exact ⟨hi,(h.dom i n e).2⟩
  ·cases e
 tdom k x e:=by
  simp only [Cx.cut] at e
  split at e
  ·rename_i hi;exact ⟨hi,(h.tdom k x e).2⟩
  ·cases e
 blk i B x:=by
  obtain ⟨h1,h2⟩:=g.live i B x
  obtain ⟨n,h3,h4⟩:=h.blk i B h1
  have hi:i<S'.heap.length:=by
   rcases zU i S'.heap.length with h' | h'
   ·exact h'
   ·rw [zN h'] at x;cases x
  exact ⟨n,by simp [Cx.cut,hi,h3],h4.cut h2⟩
 inj i j Bi Bj n x x' e e':=by
  simp only [Cx.cut] at e e'
  split at e
  ·split at e'
   ·exact h.inj i j Bi Bj n (g.live i Bi x).1 (g.live j Bj x').1 e e'
   ·cases e'
  ·cases e
 tok k hk:=by
  obtain ⟨h1,h2⟩:=g.toks k hk
  obtain ⟨b,lo,hi,h3,h4⟩:=h.tok k h1
  exact ⟨b,lo,hi,by simp [Cx.cut,h2,h3],h4⟩
 tinj k k' b lo hi lo' hi' hk hk' e e':=by
  simp only [Cx.cut,(g.toks k hk).2,(g.toks k' hk').2,if_true] at e e'
  exact h.tinj k k' b lo hi lo' hi' (g.toks k hk).1 (g.toks k' hk').1 e e'
 tblk k i b lo hi B hk x e e':=by
  simp only [Cx.cut,(g.toks k hk).2,if_true] at e
  simp only [Cx.cut] at e'
  split at e'
  ·exact h.tblk k i b lo hi B (g.toks k hk).1 (g.live i B x).1 e e'
  ·cases e'
 tfr k b lo hi hk e o:=by
  simp only [Cx.cut,(g.toks k hk).2,if_true] at e
  exact h.tfr k b lo hi (g.toks k hk).1 e o
def TsSub (n k:Nat) (ts ts':TS):Prop:=∀ d v',ts'.get d=some v' → ∃ v,ts.get d=some v∧Sub v v'∧v'.bnd n k=true
def thenQ (next:TS→St→Prop) (Q:AQ):AQ
 | .normal,ts,S=>next ts S
 | e,ts,S=>Q e ts S
def blockQ (id:Nat) (Q:AQ):AQ
 | .exit id',ts,S=>if id'=id then Q .normal ts S else Q (.exit id') ts S
 | e,ts,S=>Q e ts S
def again (I:Nat→TS→St→Prop) (base bt n:Nat) (ts:TS) (S:St):Prop:=
 ∃ m,m<n∧(I m ts S ∨ ∃ ts' S',base≤S'.heap.length∧bt≤S'.nt∧Gc S S'∧TsSub S'.heap.length S'.nt ts ts'∧I m ts' S')
theorem zAj {I:Nat→TS→St→Prop} {base bt n:Nat} {ts:TS} {S:St} (m:Nat) (hm:m<n) (h:I m ts S):again I base bt n ts S:=⟨m,hm,.inl h⟩
theorem Sim.gc {E:Env} {c0 c:Cx} {ds:List Deferred} {ts ts':TS} {S S':St} {a:Act} {w:World} (h:Sim E c0 c ds ts S a w) (hb:E.base≤S'.heap.length) (ht:E.bt≤S'.nt) (g:Gc S S') (hs:TsSub S'.heap.length S'.nt ts ts') :
  Sim E c0 (c.cut S'.heap.length S'.nt) ds ts' S' a w:=by
 refine ⟨⟨h.le.K,fun i n e => ?_,fun k x e => ?_,h.le.X,h.le.XO,h.le.sz,h.le.FZ,fun i n e => ?_,fun k x e => ?_⟩,h.hC,h.b0,h.st.cut g,fun d v' e => ?_,h.ds,h.size⟩
 ·have:=h.b0.1 i n e
  simp only [Cx.cut]
  rw [if_pos (by omega)];exact h.le.μ i n e
 ·have:=h.b0.2 k x e
  simp only [Cx.cut]
  rw [if_pos (by omega)];exact h.le.τ k x e
 ·simp only [Cx.cut] at e
  split at e
  ·exact h.le.μn i n e
  ·cases e
 ·simp only [Cx.cut] at e
  split at e
  ·exact h.le.τn k x e
  ·cases e
 ·obtain ⟨v,h1,h2,h3⟩:=hs d v' e
  exact (h2 c _ (h.ts d v h1)).cut h3
def Res.quiet:Res→Bool
 | .write _ _ _=>false
 | _=>true
def Res.calm:Res→Bool
 | .pure _=>true
 | _=>false
def Res.noKill:Res→Bool
 | .tok (some _) _=>false
 | _=>true
def St.none:St:=⟨[],0,[]⟩
def isW:Op→Bool
 | .store ..=>true
 | .mapUpdate ..=>true
 | .next ..=>true
 | .call { callee:=.builtin .copy,.. }=>true
 | .call { callee:=.builtin .delete,.. }=>true
 | _=>false
def QOp (E:Env) (free:Bool) (b:St) (o:Op) (ts:TS) (S:St) (K:AV→St→St→Prop):Prop:=
 if free=true then
  match astepO E.T St.none ts o with
  | some r=>r.calm=true∧K (r.app S).1 S b
  | none=>False
 else if isW o=true then
  match astepO E.T S ts o with
  | some r=>r.ok S∧K (r.app S).1 (r.app S).2 (r.app S).2
  | none=>False
 else match astepO E.T b ts o with
  | some r=>r.quiet=true∧r.ok S∧K (r.app S).1 (r.app S).2 b
  | none=>match o with
   | .call c=>match callee E ts c with
    | some (f,args)=>Callable E.P f ∧ ∃ args' r,SubL args args'∧PC E.P f args' r∧r.quiet=true∧r.noKill=true∧K (r.app S).1 (r.app S).2 b
    | none=>False
   | _=>False
def QPre (E:Env) (ops:Array Oper) (K:TS→St→Prop):Nat→List Oper→List Bool→St→TS→St→Prop
 | 0,_,_,_,ts,S=>K ts S
 | _+1,[],_,_,_,_=>False
 | n+1,o :: rest,hs,b,ts,S=>dstOk E.N o.dst=true ∧
  match wantedA ops ts o with
  | some false=>QPre E ops K n rest hs.tail b (setT ts o.dst .undef) S
  | some true=>QOp E (hs.headD false) b o.op ts S (fun v S' b'=>QPre E ops K n rest hs.tail b' (setT ts o.dst v) S')
  | none=>False
def QOpZ (E:Env) (Z:List Nat) (free:Bool) (b:St) (o:Op) (ts:TS) (S:St) (K:AV→St→St→Prop):Prop:=
 if free=true then
  ∃ F r,(∀ (p:Nat) (B:Blk),F.heap[p]? = some (some B)→p∈Z∧S.heap[p]? = some (some B))∧astepO E.T F ts o=some r∧r.calm=true∧K (r.app S).1 S b
 else if isW o=true then
  match astepO E.T S ts o with
  | some r=>r.ok S∧(∀ i B v,r=.write i B v→i ∉ Z)∧K (r.app S).1 (r.app S).2 (r.app S).2
  | none=>False
 else match astepO E.T b ts o with
  | some r=>r.quiet=true∧r.ok S∧K (r.app S).1 (r.app S).2 b
  | none=>match o with
   | .call c=>match callee E ts c with
    | some (f,args)=>Callable E.P f ∧ ∃ args' r,SubL args args'∧PC E.P f args' r∧r.quiet=true∧r.noKill=true∧K (r.app S).1 (r.app S).2 b
    | none=>False
   | _=>False
def QPreZ (E:Env) (Z:List Nat) (ops:Array Oper) (K:TS→St→Prop):Nat→List Oper→List Bool→St→TS→St→Prop
 | 0,_,_,_,ts,S=>K ts S
 | _+1,[],_,_,_,_=>False
 | n+1,o :: rest,hs,b,ts,S=>dstOk E.N o.dst=true ∧
  match wantedA ops ts o with
  | some false=>QPreZ E Z ops K n rest hs.tail b (setT ts o.dst .undef) S
  | some true=>QOpZ E Z (hs.headD false) b o.op ts S (fun v S' b'=>QPreZ E Z ops K n rest hs.tail b' (setT ts o.dst v) S')
  | none=>False
theorem QOp.toZ {E:Env} {f:Bool} {b:St} {o:Op} {ts:TS} {S:St} {K K':AV→St→St→Prop} (hK:∀ v S b,K v S b→K' v S b) (h:QOp E f b o ts S K):QOpZ E [] f b o ts S K':=by
 unfold QOp at h
 unfold QOpZ
 split
 ·rename_i hf
  simp only [hf,if_true] at h
  split at h
  ·rename_i r hr;exact ⟨St.none,r,fun p B e=>by simp [St.none] at e,hr,h.1,hK _ _ _ h.2⟩
  ·exact h.elim
 ·rename_i hf
  simp only [if_neg hf] at h
  split
  ·rename_i hw
   simp only [hw,if_true] at h
   split at h
   ·exact ⟨h.1,(fun i B v _ hh=>by cases hh),hK _ _ _ h.2⟩
   ·exact h.elim
  ·rename_i hw
   simp only [if_neg hw] at h
   split at h
   ·exact ⟨h.1,h.2.1,hK _ _ _ h.2.2⟩
   ·split at h
    ·split at h
     ·obtain ⟨a1,args',r,a2,a3,a4,a5,a6⟩:=h
      exact ⟨a1,args',r,a2,a3,a4,a5,hK _ _ _ a6⟩
     ·exact h.elim
    ·exact h.elim
theorem QPre.toZ {E:Env} {ops:Array Oper} {K:TS→St→Prop}:∀ (n:Nat) (l:List Oper) (hs:List Bool) (b:St) (ts:TS) (S:St),QPre E ops K n l hs b ts S→QPreZ E [] ops K n l hs b ts S
 | 0,_,_,_,_,_,h=>h
 | _+1,[],_,_,_,_,h=>h.elim
 | n+1,o :: rest,hs,b,ts,S,h=>by
  obtain ⟨hd,h⟩:=h
  refine ⟨hd, ?_⟩
  split at h
  ·exact QPre.toZ _ _ _ _ _ _ h
  ·exact h.toZ fun v S' b' hq=>QPre.toZ _ _ _ _ _ _ hq
  ·exact h.elim
def reach (ops:Array Oper) (i j:Nat):Bool:=((Region.before ops).getD j 0).testBit i
def tmpsOf (l:List Operand):List Nat:=l.filterMap fun | .tmp t=>some t | _=>none
def seenBy (ops:Array Oper) (o:Oper):List Nat:=tmpsOf o.op.operands.toList ++ (match o.guard with
 | none=>[]
 | some (j,_)=>((ops[j]?).bind (·.dst)).toList)
def drawOk (ops:Array Oper) (hs:List Bool) (m:Nat):Bool:=
 let bf:=Region.before ops
 let rc:=fun i j=>(bf.getD j 0).testBit i
 decide (m≤ops.size) &&
 ops.toList.zipIdx.all (fun p=>p.1.after.toList.all fun e => !Region.binds .any e || decide (e.on<p.2)) &&
 ops.toList.zipIdx.all (fun p=>ops.toList.zipIdx.all fun q=>decide (p.2=q.2) || (match q.1.dst with
  | none=>true
  | some d => !((p.1.dst == some d) || (seenBy ops p.1).contains d) || rc (min p.2 q.2) (max p.2 q.2))) &&
 (List.range ops.size).all (fun j=>decide (j<m) || (List.range j).all (fun i=>rc i j)) &&
 (ops.toList.zipIdx.all fun q => !isW q.1.op || decide (m≤q.2) || (List.range m).all fun j=>hs.getD j false || decide (j=q.2) || rc (min j q.2) (max j q.2))
theorem dstsOk_get {N:Nat} {ops:Array Oper} (h:dstsOk N ops=true) (j:Nat) (oj:Oper) (hj:ops[j]? = some oj):dstOk N oj.dst=true:=by
 unfold dstsOk at h
 rw [yG] at h
 exact h oj (by
  have:ops.toList[j]? = some oj:=by simpa using hj
  exact List.mem_of_getElem? this)
theorem range_ops (ops:Array Oper):(List.range ops.size).map (ops[·]?)=ops.toList.map some:=by
 apply List.ext_getElem?
 intro j
 simp only [qK]
 by_cases hj:j<ops.size
 ·rw [qR hj]
  simp [hj]
 ·rw [zN (by simpa using hj),zN (by simpa using hj)]
  rfl
theorem Sim.keep {E:Env} {c0 c:Cx} {ds:List Deferred} {ts:TS} {S:St} {a:Act} {w:World} (h:Sim E c0 c ds ts S a w) (ks:List Nat):Sim E c0 c ds (ts.keep ks) S a w:=by
 refine ⟨h.le,h.hC,h.b0,h.st,fun d v e => ?_,h.ds,h.size⟩
 rw [TS.get_keep] at e
 split at e
 ·exact h.ts d v e
 ·cases e
theorem wpIn_loop_idx {F:Fence} {nn:Nat} {P:Program} {Q:Exit→Act→World→Prop} {c:Code} (J:Nat→Act→World→Prop) {n:Nat} {a:Act} {w:World} (h0:J n a w)
  (round:∀ n a w,J n a w→c.wpIn F nn P (Exit.then (fun a' w' => ∃ m,m<n∧J m a' w') Q) a w):(Code.loop c).wpIn F nn P Q a w:=by
 classical
 have hex:∀ a w,(∃ n,J n a w) → ∃ n,J n a w ∧ ∀ m,J m a w→n≤m:=by
  intro a w ⟨n,hn⟩
  induction n using Nat.strongRecOn with
  | _ n ih =>
   by_cases hm:∃ m,m<n∧J m a w
   ·obtain ⟨m,h1,h2⟩:=hm;exact ih m h1 h2
   ·exact ⟨n,hn,fun m h=>by
     rcases zU m n with h' | h'
     ·exact absurd ⟨m,h',h⟩ hm
     ·exact h'⟩
 let μ:Act→World→Nat:=fun a w=>if h:∃ n,J n a w then Classical.choose (hex a w h) else 0
 refine wpIn_loop (fun a w => ∃ n,J n a w) μ ⟨n,h0⟩ fun a w hI => ?_
 have hμ:J (μ a w) a w ∧ ∀ m,J m a w→μ a w≤m:=by
  simp only [μ,hI,dif_pos]
  exact Classical.choose_spec (hex a w hI)
 refine wpIn_mono (round (μ a w) a w hμ.1) fun e a' w' hq => ?_
 cases e with
 | normal =>
  obtain ⟨m,h1,h2⟩:=hq
  have hI':∃ n,J n a' w':=⟨m,h2⟩
  refine ⟨hI', ?_⟩
  have:μ a' w'≤m:=by
   have:=(Classical.choose_spec (hex a' w' hI')).2 m h2
   simp only [μ,hI',dif_pos];exact this
  omega
 | exit i=>exact hq
 | goto l=>exact hq
 | ret=>exact hq
 | panic ch=>exact hq
 | outgrown=>exact hq
end Go.Av
end
