/- Part 6 of the proof. -/
import Derived.Test.YtclmbbofpaecaaaGreatDoorVn5
set_option linter.all false
set_option linter.unusedVariables false
set_option linter.unusedSimpArgs false
set_option linter.unusedSectionVars false
open Array renaming getD_eq_getD_getElem? → zZ, getElem?_eq_none → qP
open Bool renaming and_self → zJ
open List renaming all_cons → zL, mem_cons_self → zP, mem_cons_of_mem → zR
open Nat renaming le_refl → zM
open Option renaming map_eq_some_iff → zK, getD_some → qD, bind_some → qT
open Option.some renaming injEq → yT
open Go.Result renaming andThen_ok → yU
open Go.Sem renaming run_bind → yV
open Go.Sem renaming run_pure → yW
section
namespace Go.Av
open Go
structure MO where
 g:Option (Nat × Bool)
 d:Option Nat
 o:Op
inductive MC where
 | skip
 | region (keep:List Nat) (l:List MO)
 | regionB (keep:List Nat) (l1:List MO) (m:MO) (l2:List MO)
 | draw (keep:List Nat) (m:Nat) (hs:List Bool) (l:List MO)
 | drawZ (keep:List Nat) (m:Nat) (hs:List Bool) (l:List MO)
 | seq (a b:MC)
 | cond (c:Operand) (a b:MC)
 | block (id:Nat) (a:MC)
 | loop (a:MC)
 | exit (id:Nat)
 | ret
 | rangeFunc (g:Operand) (ps:List Nat) (a b:MC)
def guardM (ts:TS):Option (Nat × Bool)→Option Bool
 | none=>some true
 | some (t,b)=>match ts.get t with
  | some (.bool x)=>some (x == b)
  | some (.tuple _)=>some false
  | _=>none
def opM (E:Env) (o:Op) (ts:TS) (S:St) (K:AV→St→Prop) (Q:AQ):Prop:=
 match astepO E.T S ts o with
 | some r=>r.ok S∧K (r.app S).1 (r.app S).2
 | none=>match o with
  | .call c=>match callee E ts c with
   | some (f,args)=>WCall E f args S K (panK Q ts)
   | none=>match yieldee ts c with
    | some (l,args)=>WYield E l args S K
    | none=>False
  | .panic x=>match aeval ts x with
   | some (.iface t v)=>Q (.panic (.iface t v)) ts S
   | _=>False
  | _=>False
def opsM (E:Env) (Q:AQ):List MO→TS→St→Prop
 | [],ts,S=>Q .normal ts S
 | m :: rest,ts,S=>match guardM ts m.g with
  | some true=>opM E m.o ts S (contK (opsM E Q rest) ts m.d) Q
  | some false=>opsM E Q rest (setT ts m.d .undef) S
  | none=>False
def preM (E:Env) (K:TS→St→Prop):Nat→List MO→List Bool→St→TS→St→Prop
 | 0,_,_,_,ts,S=>K ts S
 | _+1,[],_,_,_,_=>False
 | n+1,m :: rest,hs,b,ts,S=>match guardM ts m.g with
  | some false=>preM E K n rest hs.tail b (setT ts m.d .undef) S
  | some true=>QOp E (hs.headD false) b m.o ts S (fun v S' b'=>preM E K n rest hs.tail b' (setT ts m.d v) S')
  | none=>False
def preZ (E:Env) (Z:List Nat) (K:TS→St→Prop):Nat→List MO→List Bool→St→TS→St→Prop
 | 0,_,_,_,ts,S=>K ts S
 | _+1,[],_,_,_,_=>False
 | n+1,m :: rest,hs,b,ts,S=>match guardM ts m.g with
  | some false=>preZ E Z K n rest hs.tail b (setT ts m.d .undef) S
  | some true=>QOpZ E Z (hs.headD false) b m.o ts S (fun v S' b'=>preZ E Z K n rest hs.tail b' (setT ts m.d v) S')
  | none=>False
def keepQ (ks:List Nat) (Q:AQ):AQ
 | .normal,ts,S=>Q .normal (ts.keep ks) S
 | e,ts,S=>Q e ts S
def Env.inRound (E:Env) (l:Nat) (S:St):Env:={ E with R:=some l,base:=S.heap.length,bt:=S.nt }
theorem Env.Ok.inRound {E:Env} (h:E.Ok) (l:Nat) (S:St):(E.inRound l S).Ok:=⟨h.T,h.M,h.Cle,h.Y⟩
def zipTS:List Nat→List AV→TS→TS
 | p :: ps,v :: vs,ts=>zipTS ps vs (ts.set p v)
 | _,_,ts=>ts
def IterC (P:Program) (gf:FuncId) (caps:List AV) (S:St) (Y:List AV→St→(AV→St→Prop)→Prop) (R:St→Prop):Prop:=
 ∀ (l:Nat) (C:Cx→Prop),(∀ c c':Cx,c.leS c'→C c→C c') →
  (∀ args S2 R2 c w vs,Y args S2 R2→C c→StRel c S2 w→LRel c args vs→YieldW P l vs w fun v w' => ∃ av S' c',c.le c'∧R2 av S'∧VRel c' av v∧StRel c' S' w') →
  ∀ c w vs,C c→StRel c S w→LRel c (.func (.yield l) [] [] :: caps) vs→Calls P gf vs.toArray w fun e w' => ∃ x S' c',e=.returned x∧c.le c'∧R S'∧StRel c' S' w'
def onlyN (K:TS→St→Prop):AQ
 | .normal,ts,S=>K ts S
 | _,_,_=>False
def busyL (r:Loop):Loop:={ r with state:=.busy }
def stopL (r:Loop):Loop:={ r with state:=.done,pending:=some .ret }
def roundQ (i:Nat) (r:Loop) (K:AV→St→Prop):AQ
 | .normal,_,S=>S.heap[i]? = some (some (.loop (busyL r)))∧K (.bool true) (S.put i (.loop r))
 | .ret,_,S=>S.heap[i]? = some (some (.loop (busyL r)))∧K (.bool false) (S.put i (.loop (stopL r)))
 | _,_,_=>False
def St.withLoop (S:St) (r:Loop):St:={ S with heap:=S.heap ++ [some (.loop r)] }
def WC:Env→MC→AQ→TS→St→Prop
 | _,.skip,Q,ts,S=>Q .normal ts S
 | E,.seq x y,Q,ts,S=>WC E x (thenQ (WC E y Q) Q) ts S
 | E,.cond c x y,Q,ts,S=>match aeval ts c with
  | some (.bool b)=>if b=true then WC E x Q ts S else WC E y Q ts S
  | _=>False
 | E,.block id x,Q,ts,S=>WC E x (blockQ id Q) ts S
 | E,.loop x,Q,ts,S => ∃ I:Nat→TS→St→Prop,(∃ n,I n ts S) ∧ ∀ n ts S,I n ts S→WC E x (thenQ (again I E.base E.bt n) Q) ts S
 | _,.exit id,Q,ts,S=>Q (.exit id) ts S
 | _,.ret,Q,ts,S=>Q .ret ts S
 | E,.region ks l,Q,ts,S=>opsM E (keepQ ks Q) l ts S
 | E,.regionB ks l1 m l2,Q,ts,S=>opsM E (thenQ (fun ts S => ∃ r,appB E.T S ts m.o=some r∧opsM E (keepQ ks Q) l2 (setT ts m.d (r.app S).1) (r.app S).2) (keepQ ks Q)) l1 ts S
 | E,.draw ks m hs l,Q,ts,S=>preM E (opsM E (keepQ ks Q) (l.drop m)) m l hs S ts S
 | E,.drawZ ks m hs l,Q,ts,S => ∃ Z:List Nat,(∀ p∈Z,p<S.heap.length)∧preZ E Z (opsM E (keepQ ks Q) (l.drop m)) m l hs S ts S
 | E,.rangeFunc g ps x y,Q,ts,S=>((∀ c,E.C c)∧E.R=none∧E.K=true ∧ ∃ gf caps R,aeval ts g=some (.func (.func gf) [] caps)∧Callable E.P gf ∧
   IterC E.P gf caps S (fun args S1 R1=>args.length=ps.length ∧ ∀ l,WC (E.inRound l S1) x (onlyN fun ts2 S2=>WC (E.inRound l S2) y (onlyN fun _ S3=>R1 (.bool true) S3) ts2 S2) (zipTS ps args ts) S1) R ∧
   ∀ S',R S'→Q .normal ts S') ∨
  ((∀ c,E.C c)∧E.R=none∧E.K=true ∧ ∃ gf caps,aeval ts g=some (.func (.func gf) [] caps)∧Callable E.P gf ∧ ∃ R:Loop→St→Prop,∀ r:Loop,r.state=.ready→r.pending=none →
   IterC E.P gf caps (S.withLoop r) (fun args S1 R1=>args.length=ps.length∧S1.heap[S.heap.length]? = some (some (.loop r)) ∧ ∀ l,WC (E.inRound l S1) x (onlyN fun ts2 S2=>S2.heap[S.heap.length]? = some (some (.loop r)) ∧
    WC (E.inRound l (S2.put S.heap.length (.loop (busyL r)))) y (roundQ S.heap.length r R1) ts2 (S2.put S.heap.length (.loop (busyL r)))) (zipTS ps args ts) S1) (R r) ∧
   ∀ S',R r S'→(S'.heap[S.heap.length]? = some (some (.loop r))∧Q .normal ts (S'.clear S.heap.length))∨(S'.heap[S.heap.length]? = some (some (.loop (stopL r)))∧Q .ret ts (S'.clear S.heap.length)))
def shortG (ops:Array Oper) (o:Oper):Option (Option (Nat × Bool)):=
 match o.guard with
 | none=>some none
 | some (j,b)=>((ops[j]?).bind (·.dst)).map fun t=>some (t,b)
inductive FitsO (N:Nat) (ops:Array Oper):List Oper→List MO→Prop where
 | nil:FitsO N ops [] []
 | cons (o:Oper) (m:MO) (l:List Oper) (l':List MO) (hd:dstOk N o.dst=true) (hg:shortG ops o=some m.g) (h1:o.dst=m.d) (h2:o.op=m.o) (h:FitsO N ops l l'):FitsO N ops (o :: l) (m :: l')
inductive Fits (N:Nat):Code→MC→Prop where
 | skip:Fits N .skip .skip
 | label (l:Nat):Fits N (.label l) .skip
 | seq (a b:Code) (x y:MC) (h:Fits N a x) (h':Fits N b y):Fits N (.seq a b) (.seq x y)
 | cond (c:Operand) (a b:Code) (x y:MC) (h:Fits N a x) (h':Fits N b y):Fits N (.cond c a b) (.cond c x y)
 | block (id:Nat) (a:Code) (x:MC) (h:Fits N a x):Fits N (.block id a) (.block id x)
 | loop (a:Code) (x:MC) (h:Fits N a x):Fits N (.loop a) (.loop x)
 | exit (id:Nat):Fits N (.exit id) (.exit id)
 | ret:Fits N .ret .ret
 | region (id:Nat) (ops:Array Oper) (ks:List Nat) (l:List MO) (h:FitsO N ops ops.toList l):Fits N (.region id ops false) (.region ks l)
 | regionB (id:Nat) (ops:Array Oper) (ks:List Nat) (l1:List MO) (m:MO) (l2:List MO) (hm:m.g=none) (h:FitsO N ops ops.toList (l1 ++ m :: l2)):Fits N (.region id ops false) (.regionB ks l1 m l2)
 | draw (id:Nat) (ops:Array Oper) (ks:List Nat) (m:Nat) (hs:List Bool) (l:List MO) (hd:drawOk ops hs m=true) (h:FitsO N ops ops.toList l):Fits N (.region id ops true) (.draw ks m hs l)
 | drawZ (id:Nat) (ops:Array Oper) (ks:List Nat) (m:Nat) (hs:List Bool) (l:List MO) (hd:drawOk ops hs m=true) (h:FitsO N ops ops.toList l):Fits N (.region id ops true) (.drawZ ks m hs l)
 | scope (a:Code) (x:MC) (h:Fits N a x):Fits N (.scope a) x
 | rangeFunc (g:Operand) (ps:Array Tmp) (a b:Code) (x y:MC) (hp:ps.toList.all (fun p=>decide (p<N))=true) (h:Fits N a x) (h':Fits N b y):Fits N (.rangeFunc g ps a b) (.rangeFunc g ps.toList x y)
theorem FitsO.dsts {N:Nat} {ops:Array Oper} {l:List Oper} {l':List MO} (h:FitsO N ops l l'):l.all (fun o=>dstOk N o.dst)=true:=by
 induction h with
 | nil=>rfl
 | cons o m l l' hd _ _ _ _ ih=>simp only [zL,hd,ih,zJ]
theorem zEj {ops:Array Oper} {ts:TS} {o:Oper} {g:Option (Nat × Bool)} (h:shortG ops o=some g):guardM ts g=wantedA ops ts o:=by
 unfold shortG at h
 unfold wantedA
 split at h
 ·rename_i hg;simp only [yT] at h;subst h;rw [hg];rfl
 ·rename_i j b hg
  simp only [zK] at h
  obtain ⟨t,ht,rfl⟩:=h
  rw [hg]
  simp only [guardM,yieldedA,ht,qT]
  cases hq:ts.get t with
  | none=>rfl
  | some v=>cases v <;> rfl
theorem opsM_pre {E:Env} {ops:Array Oper} {Q Q1:AQ} {rest:List Oper} (hn:∀ ts S,Q1 .normal ts S→WOps E ops Q rest ts S) (hx:∀ e ts S,e ≠ .normal→Q1 e ts S→Q e ts S) :
  ∀ (l:List Oper) (l':List MO) (ts:TS) (S:St),FitsO E.N ops l l'→opsM E Q1 l' ts S→WOps E ops Q (l ++ rest) ts S:=by
 intro l l' ts S h
 induction h generalizing ts S with
 | nil=>exact fun h=>hn _ _ h
 | cons o m l l' hd hg h1 h2 hr ih =>
  intro h
  simp only [opsM] at h
  rw [zEj hg] at h
  refine ⟨hd, ?_⟩
  split at h
  ·rename_i hw
   rw [hw]
   refine .inl ?_
   unfold opM at h
   rw [← h2,← h1] at h
   simp only [WOp0,astep]
   split at h
   ·rename_i r hr'
    rw [hr']
    exact ⟨h.1,ih _ _ h.2⟩
   ·rename_i hr'
    rw [hr']
    split at h
    ·rename_i c hc
     simp only [hc]
     split at h
     ·rename_i f args hcl
      rw [hcl]
      obtain ⟨a1,args',R,a2,a3,a4,a5⟩:=h
      exact ⟨a1,args',R,a2,a3,fun v S' hR=>ih _ _ (a4 v S' hR),fun v S' hR=>hx _ _ _ (fun e=>by cases e) (a5 v S' hR)⟩
     ·rename_i hcl
      rw [hcl]
      simp only
      split at h
      ·rename_i l args hy
       rw [hy]
       obtain ⟨R,h1,h2⟩:=h
       exact ⟨R,h1,fun v S' hR=>ih _ _ (h2 v S' hR)⟩
      ·exact h.elim
    ·rename_i x hc
     simp only [hc]
     split at h
     ·rename_i t v hv
      simp only [hv]
      exact hx _ _ _ (fun e=>by cases e) h
     ·exact h.elim
    ·exact h.elim
  ·rename_i hw
   rw [hw]
   rw [← h1] at h
   exact ih _ _ h
  ·exact h.elim
theorem opsM_ok {E:Env} {ops:Array Oper} {Q:AQ} (l:List Oper) (l':List MO) (ts:TS) (S:St) (h:FitsO E.N ops l l') (hl:opsM E Q l' ts S):WOps E ops Q l ts S:=by
 have:=opsM_pre (Q:=Q) (Q1:=Q) (rest:=[]) (fun ts S h=>h) (fun _ _ _ _ h=>h) l l' ts S h hl
 rwa [List.append_nil] at this
theorem FitsO.split {N:Nat} {ops:Array Oper}:∀ {l1 l2:List MO} {l:List Oper},FitsO N ops l (l1 ++ l2) → ∃ a b,l=a ++ b∧FitsO N ops a l1∧FitsO N ops b l2
 | [],l2,l,h=>⟨[],l,rfl,.nil,h⟩
 | m :: l1,l2,l,h=>by
  cases h with
  | cons o _ l' _ hd hg h1 h2 h =>
   obtain ⟨a,b,rfl,ha,hb⟩:=FitsO.split h
   exact ⟨o :: a,b,rfl,.cons o m a l1 hd hg h1 h2 ha,hb⟩
theorem opsB_ok {E:Env} {ops:Array Oper} {Q:AQ} {l:List Oper} {l1 l2:List MO} {m:MO} {ts:TS} {S:St} (h:FitsO E.N ops l (l1 ++ m :: l2)) (hm:m.g=none)
  (hl:opsM E (thenQ (fun ts S => ∃ r,appB E.T S ts m.o=some r∧opsM E Q l2 (setT ts m.d (r.app S).1) (r.app S).2) Q) l1 ts S):WOps E ops Q l ts S:=by
 obtain ⟨a,b,rfl,ha,hb⟩:=h.split
 refine opsM_pre (fun ts S h => ?_) (fun e ts S he h => ?_) a l1 ts S ha hl
 ·obtain ⟨r,hr,hk⟩:=h
  cases hb with
  | cons o _ b' _ hd hg h1 h2 hb =>
   refine ⟨hd, ?_⟩
   have hw:=zEj (ts:=ts) hg
   rw [hm] at hw
   rw [show wantedA ops ts o=some true from hw.symm]
   refine .inr ⟨r,by rw [h2];exact hr, ?_⟩
   rw [← h1] at hk
   exact opsM_ok _ _ _ _ hb hk
 ·cases e with
  | normal=>exact absurd rfl he
  | _=>exact h
theorem QOp.mono {E:Env} {f:Bool} {b:St} {o:Op} {ts:TS} {S:St} {K K':AV→St→St→Prop} (hK:∀ v S b,K v S b→K' v S b) (h:QOp E f b o ts S K):QOp E f b o ts S K':=by
 unfold QOp at *
 split
 ·rename_i hf
  simp only [hf,if_true] at h
  split at h
  ·rename_i r hr;exact ⟨h.1,hK _ _ _ h.2⟩
  ·exact h.elim
 ·rename_i hf
  simp only [if_neg hf] at h
  split
  ·rename_i hw
   simp only [hw,if_true] at h
   split at h
   ·exact ⟨h.1,hK _ _ _ h.2⟩
   ·exact h.elim
  ·rename_i hw
   simp only [if_neg hw] at h
   split at h
   ·exact ⟨h.1,h.2.1,hK _ _ _ h.2.2⟩
   ·split at h
    ·split at h
     ·obtain ⟨a1,args',r,a2,a3,a4,a5,a6⟩:=h
      exact ⟨a1,args',r,a2,a3,a4,a5,hK _ _ _ a6⟩
     ·exact h.elim
    ·exact h.elim
theorem preM_ok {E:Env} {ops:Array Oper} {K K':TS→St→Prop} (hK:∀ ts S,K ts S→K' ts S):∀ (n:Nat) (l:List Oper) (l':List MO) (hs:List Bool) (b:St) (ts:TS) (S:St),FitsO E.N ops l l'→preM E K n l' hs b ts S→QPre E ops K' n l hs b ts S:=by
 intro n
 induction n with
 | zero=>intro l l' hs b ts S h hp;exact hK _ _ hp
 | succ n ih =>
  intro l l' hs b ts S h hp
  cases h with
  | nil=>exact hp.elim
  | cons o m l l' hd hg h1 h2 hr =>
   simp only [preM] at hp
   rw [zEj hg] at hp
   refine ⟨hd, ?_⟩
   split at hp
   ·rename_i hw
    rw [hw]
    rw [← h1] at hp
    exact ih _ _ _ _ _ _ hr hp
   ·rename_i hw
    rw [hw]
    rw [← h2,← h1] at hp
    exact hp.mono fun v S' b' hq=>ih _ _ _ _ _ _ hr hq
   ·exact hp.elim
theorem QOpZ.mono {E:Env} {Z:List Nat} {f:Bool} {b:St} {o:Op} {ts:TS} {S:St} {K K':AV→St→St→Prop} (hK:∀ v S b,K v S b→K' v S b) (h:QOpZ E Z f b o ts S K):QOpZ E Z f b o ts S K':=by
 unfold QOpZ at *
 split
 ·rename_i hf
  simp only [hf,if_true] at h
  obtain ⟨F,r,h1,h2,h3,h4⟩:=h
  exact ⟨F,r,h1,h2,h3,hK _ _ _ h4⟩
 ·rename_i hf
  simp only [if_neg hf] at h
  split
  ·rename_i hw
   simp only [hw,if_true] at h
   split at h
   ·exact ⟨h.1,h.2.1,hK _ _ _ h.2.2⟩
   ·exact h.elim
  ·rename_i hw
   simp only [if_neg hw] at h
   split at h
   ·exact ⟨h.1,h.2.1,hK _ _ _ h.2.2⟩
   ·split at h
    ·split at h
     ·obtain ⟨a1,args',r,a2,a3,a4,a5,a6⟩:=h
      exact ⟨a1,args',r,a2,a3,a4,a5,hK _ _ _ a6⟩
     ·exact h.elim
    ·exact h.elim
theorem preZ_ok {E:Env} {Z:List Nat} {ops:Array Oper} {K K':TS→St→Prop} (hK:∀ ts S,K ts S→K' ts S):∀ (n:Nat) (l:List Oper) (l':List MO) (hs:List Bool) (b:St) (ts:TS) (S:St),FitsO E.N ops l l'→preZ E Z K n l' hs b ts S→QPreZ E Z ops K' n l hs b ts S:=by
 intro n
 induction n with
 | zero=>intro l l' hs b ts S h hp;exact hK _ _ hp
 | succ n ih =>
  intro l l' hs b ts S h hp
  cases h with
  | nil=>exact hp.elim
  | cons o m l l' hd hg h1 h2 hr =>
   simp only [preZ] at hp
   rw [zEj hg] at hp
   refine ⟨hd, ?_⟩
   split at hp
   ·rename_i hw
    rw [hw]
    rw [← h1] at hp
    exact ih _ _ _ _ _ _ hr hp
   ·rename_i hw
    rw [hw]
    rw [← h2,← h1] at hp
    exact hp.mono fun v S' b' hq=>ih _ _ _ _ _ _ hr hq
   ·exact hp.elim
theorem FitsO.drop {N:Nat} {ops:Array Oper}:∀ {l:List Oper} {l':List MO} (m:Nat),FitsO N ops l l'→FitsO N ops (l.drop m) (l'.drop m)
 | _,_,0,h=>h
 | _,_,m+1,.nil=>.nil
 | _,_,m+1,.cons _ _ _ _ _ _ _ _ h=>h.drop m
theorem lft_keep {E:Env} {c0:Cx} {ds:List Deferred} {Q:AQ} (ks:List Nat) (e:Exit) (a:Act) (w:World) (hq:lft E c0 ds (keepQ ks Q) e a w):lft E c0 ds Q e a w:=by
 obtain ⟨ae,ts',S',c',h1,h2,h3⟩:=hq
 cases ae with
 | normal=>exact ⟨.normal,ts'.keep ks,S',c',h1,h2,h3.keep ks⟩
 | exit i=>exact ⟨_,ts',S',c',h1,h2,h3⟩
 | ret=>exact ⟨_,ts',S',c',h1,h2,h3⟩
 | panic v=>exact ⟨_,ts',S',c',h1,h2,h3⟩
theorem zipTS_ok {c:Cx}:∀ (ps:List Nat) (args:List AV) (vs:List Value) (ts:TS) (tmps:Array Value),LRel c args vs→ps.length=args.length→(∀ p∈ps,p<tmps.size)→TsRel c ts tmps →
  TsRel c (zipTS ps args ts) ((ps.zip vs).foldl (fun t (x:Nat × Value)=>t.setIfInBounds x.1 x.2) tmps)∧((ps.zip vs).foldl (fun t (x:Nat × Value)=>t.setIfInBounds x.1 x.2) tmps).size=tmps.size
 | [],args,vs,ts,tmps,_,_,_,ht=>by
  simp only [zipTS,List.zip_nil_left,List.foldl_nil];exact ⟨ht,trivial⟩
 | p :: ps,[],vs,ts,tmps,_,hl,_,_=>by simp at hl
 | p :: ps,v :: args,vs,ts,tmps,hr,hl,hp,ht=>by
  obtain ⟨u,us,rfl,h1,h2⟩:=hr.tail
  simp only [zipTS,List.zip_cons_cons,List.foldl_cons]
  have hps:p<tmps.size:=hp p zP
  have hts:TsRel c (ts.set p v) (tmps.setIfInBounds p u):=by
   intro d x hx
   simp only [TS.get_set] at hx
   simp only [zZ,Array.getElem?_setIfInBounds]
   by_cases e:p=d
   ·subst e
    simp only [if_true,yT] at hx
    subst hx
    simp only [hps,if_true,qD];exact h1
   ·simp only [if_neg e] at hx ⊢
    have:=ht d x hx
    simpa [zZ] using this
  have ih:=zipTS_ok ps args us (ts.set p v) (tmps.setIfInBounds p u) h2 (by simpa using hl) (fun q hq=>by simpa using hp q (zR _ hq)) hts
  exact ⟨ih.1,by rw [ih.2];simp⟩
theorem rf_ok {P:Program} {N:Nat} {E:Env} (hE:E.Ok) (hP:E.P=P) (hN:E.N=N) {assign body:Code} {mx my:MC}
  (ihx:∀ (E:Env),E.Ok→E.P=P→E.N=N → ∀ (c0:Cx) (ds:List Deferred) (Q:AQ) (ts:TS) (S:St) (c:Cx) (a:Act) (w:World),WC E mx Q ts S→Sim E c0 c ds ts S a w→assign.wpIn E.F 0 E.P (lft E c0 ds Q) a w)
  (ihy:∀ (E:Env),E.Ok→E.P=P→E.N=N → ∀ (c0:Cx) (ds:List Deferred) (Q:AQ) (ts:TS) (S:St) (c:Cx) (a:Act) (w:World),WC E my Q ts S→Sim E c0 c ds ts S a w→body.wpIn E.F 0 E.P (lft E c0 ds Q) a w)
  {g:Operand} {ps:Array Tmp} (hps:ps.toList.all (fun p=>decide (p<N))=true) {Q:AQ} {ts:TS} {S:St} {c0 c:Cx} {ds:List Deferred} {a:Act} {w:World}
  (h:(∀ c,E.C c)∧E.R=none∧E.K=true ∧ ∃ gf caps R,aeval ts g=some (.func (.func gf) [] caps)∧Callable E.P gf ∧
   IterC E.P gf caps S (fun args S1 R1=>args.length=ps.toList.length ∧ ∀ l,WC (E.inRound l S1) mx (onlyN fun ts2 S2=>WC (E.inRound l S2) my (onlyN fun _ S3=>R1 (.bool true) S3) ts2 S2) (zipTS ps.toList args ts) S1) R ∧
   ∀ S',R S'→Q .normal ts S') (hs:Sim E c0 c ds ts S a w):(Code.rangeFunc g ps assign body).wpIn E.F 0 E.P (lft E c0 ds Q) a w:=by
 obtain ⟨hC,hR,hK,gf,caps,R,hg,hgc,hit,hQ⟩:=h
 subst hP
 refine wpIn_rangeFunc fun fn hfn => ?_
 have hFr:E.F.round=none:=hR
 rw [hFr]
 have hgv:=zAh hs.ts hg
 generalize hq:a.eval g=q at hgv
 cases hgv with
 | func _ _ _ f2 c2 hl hl' hff hcc =>
 have hf2:f2=#[]:=by apply Array.ext';simpa using hl.symm
 subst hf2
 obtain ⟨l,hl0⟩:∃ l,l=w.heap.size+1:=⟨_,rfl⟩
 obtain ⟨ready,hready⟩:∃ r:Loop,r={ state:=.ready,pending:=none,fn,tmps:=a.tmps,params:=ps,assign,body,defers:=w.heap.size }:=⟨_,rfl⟩
 have fresh:∀ b,w.heap.size≤b→c.XO b=none:=fun b hb=>by
  cases hx:c.XO b with
  | none=>rfl
  | some o=>have:=(hs.st.XO b o hx).1;rw [qP hb] at this;cases this
 have sta:=hs.st.allocHidden (.deferred (some [])) (by intro cs t g e;cases e)
 generalize hfa:(fun k=>if k=w.heap.size then some (Obj.deferred (some [])) else c.XO k)=fa at sta
 have stb:=sta.allocHidden (.loop ready) (by intro cs t g e;cases e)
 have hsz:(w.alloc (.deferred (some []))).heap.size=l:=by rw [hl0];simp
 rw [hsz] at stb
 generalize hfb:(fun k=>if k=l then some (Obj.loop ready) else (c.withXO fa).XO k)=fb at stb
 have stb:StRel (c.withXO fb) S ((w.alloc (.deferred (some []))).alloc (.loop ready)):=stb
 have fbl:fb l=some (.loop ready):=by rw [← hfb];simp
 have fal:fa l=none:=by rw [← hfa];simp only [hl0];rw [if_neg (by omega)];exact fresh _ (by omega)
 have faD:fa w.heap.size=some (.deferred (some [])):=by rw [← hfa];simp
 have fab:∀ b,b≠l→fb b=fa b:=fun b hb=>by rw [← hfb];simp only [if_neg hb];rfl
 have fac:∀ b ob,c.XO b=some ob→fa b=some ob:=fun b ob hb=>by
  rw [← hfa]
  have:b≠w.heap.size:=fun e=>by rw [e,fresh _ (zM _)] at hb;cases hb
  simp only [if_neg this];exact hb
 refine ⟨l,[markD w.heap.size],(w.alloc (.deferred (some []))).alloc (.loop ready),{ target:=.fn (.func gf) c2,args:=#[.func (.yield l) #[] #[]] },(w.alloc (.deferred (some []))).alloc (.loop ready),gf,#[.func (.yield l) #[] #[]] ++ c2,
  (w.alloc (.deferred (some []))).alloc (.loop ready), ?_, ?_,fun _ _=>trivial, ?_,fun hh=>by simp [Env.F,Fence.wide] at hh, ?_⟩
 ·rw [hl0,hready];exact run_enterLoop_outer _ _ _ _ _
 ·simp only [resolve,hq,Deferred.ofValue,yV,yW,yU]
  simp [Act.eval]
 ·simp only [invoke];exact zCi hgc _ _
 refine zEi ?_
 have key:=hit l (fun c'=>(c.withXO fb).leS c') (fun c1 c2 hle e=>e.trans hle) ?_ (c.withXO fb) _ (.func (.yield l) #[] #[] :: c2.toList) (Cx.le.refl _).S stb ?_
 ·have e1:(Value.func (.yield l) #[] #[] :: c2.toList).toArray=#[.func (.yield l) #[] #[]] ++ c2:=by
   apply Array.ext';simp
  rw [e1] at key
  refine key.mono fun e w7 ⟨x,S',c7,he,hle,hR',hst7⟩ => ?_
  subst he
  have hX7:c7.XO=fb:=hle.XO
  have hl7:w7.heap[l]? = some (.loop ready):=(hst7.XO l _ (by rw [hX7];exact fbl)).1
  refine ⟨none,w7.putObj l (.loop { ready with state:=.exhausted }), ?_, ?_⟩
  ·have:=run_endLoop (P:=E.P) hl7 (by rw [hready];simp)
   rw [this];rw [hready]
  refine ⟨.normal,ts,S',c7.withXO fa,trivial,hQ S' hR', ?_⟩
  have st8:StRel (c7.withXO fa) S' (w7.putObj l (.loop { ready with state:=.exhausted })):=by
   have h0:StRel (c7.withXO c7.XO) S' w7:=hst7
   have h1:=h0.dropHidden (D:=l) (o:=.loop ready) (o':=.loop { ready with state:=.exhausted }) (by rw [hX7];exact fbl) (by intro cs t g e;cases e)
   have h2:(c7.withXO fa)=(c7.withXO fun k=>if k=l then none else c7.XO k).withXO fa:=rfl
   rw [h2]
   refine h1.withXO fa (fun b ob e=>h1.XO b ob ?_) fun i n B _ _ _ e => ?_
   ·show (if b=l then none else c7.XO b)=some ob
    have hb:b≠l:=fun e'=>by rw [e',fal] at e;cases e
    rw [if_neg hb,hX7,fab b hb];exact e
   ·have e:(if n=l then none else c7.XO n)=none:=e
    by_cases hn:n=l
    ·rw [hn];exact fal
    ·rw [if_neg hn,hX7,fab n hn] at e;exact e
  have hleS:c.leS (c7.withXO fa):=⟨hle.K,hle.μ,hle.τ,hle.X,fac,hle.sz,hle.FZ,hle.μn,hle.τn⟩
  refine ⟨hs.le.trans hleS,hC _,hs.b0,st8,fun d v hv=>((((hs.ts d v hv).withXO fb).mono hle).withXO fa), ?_,hs.size⟩
  obtain ⟨ms,m1,m2,m3,_⟩:=hs.ds
  refine ⟨w.heap.size :: ms, ?_, ?_, ?_,fun hh=>by rw [hK] at hh;cases hh⟩
  ·show [markD w.heap.size] ++ a.defers=_
   rw [m1];rfl
  ·refine List.nodup_cons.2 ⟨fun hm => ?_,m2⟩
   have:=(m3 _ hm).1
   rw [fresh _ (zM _)] at this;cases this
  ·intro D hD
   rcases List.mem_cons.1 hD with rfl | hD
   ·refine ⟨faD, ?_⟩
    cases hx:c0.XO w.heap.size with
    | none=>rfl
    | some o=>have:=hs.le.XO _ _ hx;rw [fresh _ (zM _)] at this;cases this
   ·exact ⟨fac _ _ (m3 D hD).1,(m3 D hD).2⟩
 ·
  intro args S2 R2 c2 w2 vs ⟨hlen,hwc⟩ hC2' hst2 hlr
  have hC2:c2.XO l=some (.loop ready):=hC2'.XO _ _ fbl
  have hL:w2.heap[l]? = some (.loop ready):=(hst2.XO l _ hC2).1
  have hvl:vs.length=ps.size:=by have:=hlr.1;rw [hlen] at this;simpa using this.symm
  have hy:=run_yield (P:=E.P) (args:=vs.toArray) hL (by rw [hready];simpa using hvl)
  refine ⟨_,_,_,_,hy, ?_⟩
  rw [hready]
  refine roundIn_of_wpIn (F:=Fence.wide) trivial ?_
  have htm:(ps.zip vs.toArray).foldl (fun tmps (x:Tmp × Value)=>tmps.setIfInBounds x.1 x.2) a.tmps=(ps.toList.zip vs).foldl (fun t (x:Nat × Value)=>t.setIfInBounds x.1 x.2) a.tmps:=by
   rw [← Array.foldl_toList,Array.toList_zip]
  have hpl:∀ p∈ps.toList,p<a.tmps.size:=fun p hp=>by
   rw [hs.size,hN];simpa using List.all_eq_true.1 hps p hp
  have hts2:TsRel c2 ts a.tmps:=fun d v hv=>((hs.ts d v hv).withXO fb).mono3 ⟨hC2'.K,hC2'.μ,hC2'.τ⟩
  have hz:=zipTS_ok ps.toList args vs ts a.tmps hlr hlen.symm hpl hts2
  have sim2:Sim (E.inRound l S2) c2 c2 [] (zipTS ps.toList args ts) S2 { tmps:=(ps.zip vs.toArray).foldl (fun tmps (x:Tmp × Value)=>tmps.setIfInBounds x.1 x.2) a.tmps,defers:=[] } w2:=
   ⟨(Cx.le.refl c2).S,hC _,⟨fun i n e=>(hst2.dom i n e).1,fun k x e=>(hst2.tdom k x e).1⟩,hst2,by rw [htm];exact hz.1,Marks.nil _ _ _ _,by rw [htm];exact hz.2.trans hs.size⟩
  refine wpIn_mono (ihx (E.inRound l S2) (hE.inRound l S2) rfl hN c2 [] _ _ S2 c2 _ w2 (hwc l) sim2) fun e a3 w3 hq3 => ?_
  obtain ⟨ae,ts3,S3,c3,h1,h2,h3⟩:=hq3
  cases ae with
  | exit i=>exact h2.elim
  | ret=>exact h2.elim
  | panic v=>exact h2.elim
  | normal =>
  cases e <;> first | exact h1.elim | skip
  have h2:WC (E.inRound l S3) my (onlyN fun _ S3=>R2 (.bool true) S3) ts3 S3:=h2
  have hX3:=h3.le.XO l _ hC2
  have hL3:w3.heap[l]? = some (.loop ready):=(h3.st.XO l _ hX3).1
  refine ⟨w3.putObj l (.loop { ready with state:=.busy }),run_beginRound hL3 (by rw [hready]), ?_⟩
  have st4:StRel (c3.withXO fun k=>if k=l then some (.loop { ready with state:=.busy }) else c3.XO k) S3 (w3.putObj l (.loop { ready with state:=.busy })):=
   StRel.putHidden (c:=c3) (f:=c3.XO) h3.st hX3 (by intro cs t g e;cases e)
  have sim4:Sim (E.inRound l S3) (c3.withXO fun k=>if k=l then some (.loop { ready with state:=.busy }) else c3.XO k) (c3.withXO fun k=>if k=l then some (.loop { ready with state:=.busy }) else c3.XO k) a3.defers ts3 S3 a3 (w3.putObj l (.loop { ready with state:=.busy })):=
   ⟨(Cx.le.refl _).S,hC _,⟨fun i n e=>(st4.dom i n e).1,fun k x e=>(st4.tdom k x e).1⟩,st4,fun d v hv=>(h3.ts d v hv).withXO _,Marks.nil _ _ _ _,h3.size⟩
  refine wpIn_mono (ihy (E.inRound l S3) (hE.inRound l S3) rfl hN _ a3.defers _ _ S3 _ _ _ h2 sim4) fun e a5 w5 hq5 => ?_
  obtain ⟨ae,ts5,S5,c5,h4,h5,h6⟩:=hq5
  cases ae with
  | exit i=>exact h5.elim
  | ret=>exact h5.elim
  | panic v=>exact h5.elim
  | normal =>
  cases e <;> first | exact h4.elim | skip
  have h5:R2 (.bool true) S5:=h5
  have hX5:c5.XO l=some (.loop { ready with state:=.busy }):=h6.le.XO l _ (by show (if l=l then _ else _)=_;rw [if_pos rfl])
  have hL5:w5.heap[l]? = some (.loop { ready with state:=.busy }):=(h6.st.XO l _ hX5).1
  have hr6:({ ({ ready with state:=.busy }:Loop) with state:=.ready,pending:=none }:Loop)=ready:=by rw [hready]
  refine ⟨.bool true,w5.putObj l (.loop ready), ?_,.bool true,rfl,.bool true,S5,c5.withXO c2.XO, ?_,h5,.bool true, ?_⟩
  ·have:=run_endRound (P:=E.P) none hL5
   simp only [Option.isNone_none,if_true] at this
   rw [hr6] at this;exact this
  ·have k1:=h3.le
   have k2:=h6.le
   have k12:(c2.withXO (c3.withXO fun k=>if k=l then some (.loop { ready with state:=.busy }) else c3.XO k).XO).leS c5:=
    Cx.leS.trans (b:=c3.withXO fun k=>if k=l then some (.loop { ready with state:=.busy }) else c3.XO k) ⟨k1.K,k1.μ,k1.τ,k1.X,fun _ _ e=>e,k1.sz,k1.FZ,k1.μn,k1.τn⟩ k2
   exact ⟨k12.K,k12.μ,k12.τ,k12.X,rfl,k12.sz,k12.FZ,k12.μn,k12.τn⟩
  ·have h0:StRel (c5.withXO c5.XO) S5 w5:=h6.st
   have h7:=h0.putHidden (D:=l) (o':=.loop ready) hX5 (by intro cs t g e;cases e)
   have e7:(c5.withXO c2.XO)=(c5.withXO fun k=>if k=l then some (.loop ready) else c5.XO k).withXO c2.XO:=rfl
   have sub:∀ b ob,c2.XO b=some ob→(if b=l then some (.loop ready) else c5.XO b)=some ob:=fun b ob e=>by
    by_cases hb:b=l
    ·rw [if_pos hb];rw [hb,hC2] at e;exact e
    ·rw [if_neg hb]
     refine h6.le.XO b ob ?_
     show (if b=l then _ else c3.XO b)=some ob
     rw [if_neg hb];exact h3.le.XO b ob e
   rw [e7]
   refine h7.withXO _ (fun b ob e=>h7.XO b ob (sub b ob e)) fun i n B _ _ _ e => ?_
   have e:(if n=l then some (.loop ready) else c5.XO n)=none:=e
   cases hx:c2.XO n with
   | none=>rfl
   | some ob=>rw [sub n ob hx] at e;cases e
 ·refine LRel.cons (.func _ [] [] _ _ rfl rfl (fun j x v h=>by simp at h) (fun j x v h=>by simp at h)) ⟨by simpa using hl',fun j x v h1 h2=>(hcc j x v h1 (by simpa using h2)).withXO fb⟩
theorem StRel.loopIn {c:Cx} {S:St} {w:World} (h:StRel c S w) {i n:Nat} {r:Loop} (r':Loop) (hi:S.heap[i]? = some (some (.loop r))) (hm:c.μ i=some n) :
  w.heap[n]? = some (.loop r)∧StRel c (S.put i (.loop r')) (w.putObj n (.loop r')):=by
 obtain ⟨n',h1,h2⟩:=h.blk i _ hi
 rw [hm] at h1;cases h1
 exact ⟨h2.2,Post.objIn h hi hm h2.2 (fun _ _ _ e=>by cases e) (fun _ _ _ e=>by cases e) h2.1 (fun _ e=>by cases e) ⟨h2.1,zBs h2.2⟩⟩
theorem StRel.loopOut {c:Cx} {S:St} {w:World} (h:StRel c S w) {i n:Nat} {r:Loop} (r':Loop) (hi:S.heap[i]? = some (some (.loop r))) (hm:c.μ i=some n) :
  w.heap[n]? = some (.loop r)∧StRel c (S.clear i) (w.putObj n (.loop r')):=by
 obtain ⟨n',h1,h2⟩:=h.blk i _ hi
 rw [hm] at h1;cases h1
 refine ⟨h2.2,(h.clear i).chg (Chg.putObj h2.2 (fun _ _ _ e=>by cases e) (fun _ _ _ e=>by cases e)) (fun _ _ e=>e.elim) (fun b' e=>by subst e;exact h2.1) (fun i' Bi n' hBi hm'=>⟨fun _ _ e=>e,fun _ hr => ?_⟩)⟩
 obtain ⟨hne,hB'⟩:=zAt hBi
 subst hr
 exact hne (h.inj i' i Bi _ n' hB' hi hm' hm)
theorem rf2_ok {P:Program} {N:Nat} {E:Env} (hE:E.Ok) (hP:E.P=P) (hN:E.N=N) {assign body:Code} {mx my:MC}
  (ihx:∀ (E:Env),E.Ok→E.P=P→E.N=N → ∀ (c0:Cx) (ds:List Deferred) (Q:AQ) (ts:TS) (S:St) (c:Cx) (a:Act) (w:World),WC E mx Q ts S→Sim E c0 c ds ts S a w→assign.wpIn E.F 0 E.P (lft E c0 ds Q) a w)
  (ihy:∀ (E:Env),E.Ok→E.P=P→E.N=N → ∀ (c0:Cx) (ds:List Deferred) (Q:AQ) (ts:TS) (S:St) (c:Cx) (a:Act) (w:World),WC E my Q ts S→Sim E c0 c ds ts S a w→body.wpIn E.F 0 E.P (lft E c0 ds Q) a w)
  {g:Operand} {ps:Array Tmp} (hps:ps.toList.all (fun p=>decide (p<N))=true) {Q:AQ} {ts:TS} {S:St} {c0 c:Cx} {ds:List Deferred} {a:Act} {w:World}
  (h:(∀ c,E.C c)∧E.R=none∧E.K=true ∧ ∃ gf caps,aeval ts g=some (.func (.func gf) [] caps)∧Callable E.P gf ∧ ∃ R:Loop→St→Prop,∀ r:Loop,r.state=.ready→r.pending=none →
   IterC E.P gf caps (S.withLoop r) (fun args S1 R1=>args.length=ps.toList.length∧S1.heap[S.heap.length]? = some (some (.loop r)) ∧ ∀ l,WC (E.inRound l S1) mx (onlyN fun ts2 S2=>S2.heap[S.heap.length]? = some (some (.loop r)) ∧
    WC (E.inRound l (S2.put S.heap.length (.loop (busyL r)))) my (roundQ S.heap.length r R1) ts2 (S2.put S.heap.length (.loop (busyL r)))) (zipTS ps.toList args ts) S1) (R r) ∧
   ∀ S',R r S'→(S'.heap[S.heap.length]? = some (some (.loop r))∧Q .normal ts (S'.clear S.heap.length))∨(S'.heap[S.heap.length]? = some (some (.loop (stopL r)))∧Q .ret ts (S'.clear S.heap.length)))
  (hs:Sim E c0 c ds ts S a w):(Code.rangeFunc g ps assign body).wpIn E.F 0 E.P (lft E c0 ds Q) a w:=by
 obtain ⟨hC,hR,hK,gf,caps,hg,hgc,R,hall⟩:=h
 subst hP
 refine wpIn_rangeFunc fun fn hfn => ?_
 have hFr:E.F.round=none:=hR
 rw [hFr]
 have hgv:=zAh hs.ts hg
 generalize hq:a.eval g=q at hgv
 cases hgv with
 | func _ _ _ f2 c2 hl hl' hff hcc =>
 have hf2:f2=#[]:=by apply Array.ext';simpa using hl.symm
 subst hf2
 obtain ⟨l,hl0⟩:∃ l,l=w.heap.size+1:=⟨_,rfl⟩
 obtain ⟨ready,hready⟩:∃ r:Loop,r={ state:=.ready,pending:=none,fn,tmps:=a.tmps,params:=ps,assign,body,defers:=w.heap.size }:=⟨_,rfl⟩
 obtain ⟨i,hi⟩:∃ i,i=S.heap.length:=⟨_,rfl⟩
 obtain ⟨hit,hQ⟩:=hall ready (by rw [hready]) (by rw [hready])
 rw [← hi] at hit hQ
 have fresh:∀ b,w.heap.size≤b→c.XO b=none:=fun b hb=>by
  cases hx:c.XO b with
  | none=>rfl
  | some o=>have:=(hs.st.XO b o hx).1;rw [qP hb] at this;cases this
 have sta:=hs.st.allocHidden (.deferred (some [])) (by intro cs t g e;cases e)
 generalize hfa:(fun k=>if k=w.heap.size then some (Obj.deferred (some [])) else c.XO k)=fa at sta
 have faD:fa w.heap.size=some (.deferred (some [])):=by rw [← hfa];simp
 have fac:∀ b ob,c.XO b=some ob→fa b=some ob:=fun b ob hb=>by
  rw [← hfa]
  have:b≠w.heap.size:=fun e=>by rw [e,fresh _ (zM _)] at hb;cases hb
  simp only [if_neg this];exact hb
 have hsz:(w.alloc (.deferred (some []))).heap.size=l:=by rw [hl0];simp
 have hpost:Post (c.withXO fa) S (.alloc (.loop ready) (.ref · 0)) (.pointer (some ⟨l,0,none⟩)) ((w.alloc (.deferred (some []))).alloc (.loop ready)):=by
  have:=Post.newBlk sta (.loop ready) (B:=.loop ready) (mk:=(.ref · 0)) (v:=.pointer (some ⟨l,0,none⟩)) (fun c' hc hK hX=>⟨by rw [hc.XO];exact XO_new sta,World.alloc_heap_new _ _⟩)
   (fun c' i hc hm=>.ref i 0 l (by rw [hsz] at hm;exact hm))
  exact this
 obtain ⟨cP,hleP,stP,hvP⟩:=Post.app sta hpost
 have hmP:cP.μ i=some l:=by
  have hvP:VRel cP (.ref S.heap.length 0) (.pointer (some ⟨l,0,none⟩)):=hvP
  rw [← hi] at hvP
  cases hvP with
  | ref _ _ _ hm=>exact hm
 have stP:StRel cP (S.withLoop ready) ((w.alloc (.deferred (some []))).alloc (.loop ready)):=stP
 have hXP:cP.XO=fa:=hleP.XO
 clear hvP hpost
 refine ⟨l,[markD w.heap.size],(w.alloc (.deferred (some []))).alloc (.loop ready),{ target:=.fn (.func gf) c2,args:=#[.func (.yield l) #[] #[]] },(w.alloc (.deferred (some []))).alloc (.loop ready),gf,#[.func (.yield l) #[] #[]] ++ c2,
  (w.alloc (.deferred (some []))).alloc (.loop ready), ?_, ?_,fun _ _=>trivial, ?_,fun hh=>by simp [Env.F,Fence.wide] at hh, ?_⟩
 ·rw [hl0,hready];exact run_enterLoop_outer _ _ _ _ _
 ·simp only [resolve,hq,Deferred.ofValue,yV,yW,yU]
  simp [Act.eval]
 ·simp only [invoke];exact zCi hgc _ _
 refine zEi ?_
 have key:=hit l (fun c'=>cP.leS c') (fun c1 c2 hle e=>e.trans hle) ?_ cP _ (.func (.yield l) #[] #[] :: c2.toList) (Cx.le.refl _).S stP ?_
 ·have e1:(Value.func (.yield l) #[] #[] :: c2.toList).toArray=#[.func (.yield l) #[] #[]] ++ c2:=by
   apply Array.ext';simp
  rw [e1] at key
  refine key.mono fun e w7 ⟨x,S',c7,he,hle,hR',hst7⟩ => ?_
  subst he
  have hX7:c7.XO=fa:=hle.XO.trans hXP
  have hm7:c7.μ i=some l:=hle.μ _ _ hmP
  have hleS:c.leS c7:=by
   have h1:(c.withXO fa).le c7:=hleP.trans hle
   exact ⟨h1.K,h1.μ,h1.τ,h1.X,fun b ob e=>by rw [hX7];exact fac b ob e,h1.sz,h1.FZ,h1.μn,h1.τn⟩
  have sim:∀ w8:World,StRel c7 (S'.clear i) w8→Sim E c0 c7 ds ts (S'.clear i) { a with defers:=[markD w.heap.size] ++ a.defers } w8:=fun w8 st8=>by
   refine ⟨hs.le.trans hleS,hC _,hs.b0,st8,fun d v hv=>(((hs.ts d v hv).withXO fa).mono (hleP.trans hle)), ?_,hs.size⟩
   obtain ⟨ms,m1,m2,m3,_⟩:=hs.ds
   refine ⟨w.heap.size :: ms, ?_, ?_, ?_,fun hh=>by rw [hK] at hh;cases hh⟩
   ·show [markD w.heap.size] ++ a.defers=_
    rw [m1];rfl
   ·refine List.nodup_cons.2 ⟨fun hm => ?_,m2⟩
    have:=(m3 _ hm).1
    rw [fresh _ (zM _)] at this;cases this
   ·intro D hD
    rcases List.mem_cons.1 hD with rfl | hD
    ·refine ⟨by rw [hX7];exact faD, ?_⟩
     cases hx:c0.XO w.heap.size with
     | none=>rfl
     | some o=>have:=hs.le.XO _ _ hx;rw [fresh _ (zM _)] at this;cases this
    ·exact ⟨by rw [hX7];exact fac _ _ (m3 D hD).1,(m3 D hD).2⟩
  rcases hQ S' hR' with ⟨hlive,hq⟩ | ⟨hlive,hq⟩
  ·obtain ⟨hl7,st8⟩:=hst7.loopOut { ready with state:=.exhausted } hlive hm7
   refine ⟨none,w7.putObj l (.loop { ready with state:=.exhausted }), ?_, ?_⟩
   ·have:=run_endLoop (P:=E.P) hl7 (by rw [hready];simp)
    rw [this];rw [hready]
   exact ⟨.normal,ts,_,c7,trivial,hq,sim _ st8⟩
  ·obtain ⟨hl7,st8⟩:=hst7.loopOut { stopL ready with state:=.exhausted } hlive hm7
   refine ⟨some .ret,w7.putObj l (.loop { stopL ready with state:=.exhausted }), ?_, ?_⟩
   ·have:=run_endLoop (P:=E.P) hl7 (by rw [hready];simp [stopL])
    rw [this];rfl
   exact wpIn_ret ⟨.ret,ts,_,c7,trivial,hq,sim _ st8⟩
 ·
  intro args S2 R2 c2 w2 vs ⟨hlen,hlive,hwc⟩ hC2' hst2 hlr
  have hm2:c2.μ i=some l:=hC2'.μ _ _ hmP
  obtain ⟨hL,_⟩:=hst2.loopIn ready hlive hm2
  have hvl:vs.length=ps.size:=by have:=hlr.1;rw [hlen] at this;simpa using this.symm
  have hy:=run_yield (P:=E.P) (args:=vs.toArray) hL (by rw [hready];simpa using hvl)
  refine ⟨_,_,_,_,hy, ?_⟩
  have efn:ready.fn=fn:=by rw [hready]
  have etm:ready.tmps=a.tmps:=by rw [hready]
  have epa:ready.params=ps:=by rw [hready]
  have eas:ready.assign=assign:=by rw [hready]
  have ebo:ready.body=body:=by rw [hready]
  rw [efn,etm,epa,eas,ebo]
  refine roundIn_of_wpIn (F:=Fence.wide) trivial ?_
  have htm:(ps.zip vs.toArray).foldl (fun tmps (x:Tmp × Value)=>tmps.setIfInBounds x.1 x.2) a.tmps=(ps.toList.zip vs).foldl (fun t (x:Nat × Value)=>t.setIfInBounds x.1 x.2) a.tmps:=by
   rw [← Array.foldl_toList,Array.toList_zip]
  have hpl:∀ p∈ps.toList,p<a.tmps.size:=fun p hp=>by
   rw [hs.size,hN];simpa using List.all_eq_true.1 hps p hp
  have hts2:TsRel c2 ts a.tmps:=fun d v hv=>(((hs.ts d v hv).withXO fa).mono hleP).mono3 ⟨hC2'.K,hC2'.μ,hC2'.τ⟩
  have hz:=zipTS_ok ps.toList args vs ts a.tmps hlr hlen.symm hpl hts2
  have sim2:Sim (E.inRound l S2) c2 c2 [] (zipTS ps.toList args ts) S2 { tmps:=(ps.zip vs.toArray).foldl (fun tmps (x:Tmp × Value)=>tmps.setIfInBounds x.1 x.2) a.tmps,defers:=[] } w2:=
   ⟨(Cx.le.refl c2).S,hC _,⟨fun i n e=>(hst2.dom i n e).1,fun k x e=>(hst2.tdom k x e).1⟩,hst2,by rw [htm];exact hz.1,Marks.nil _ _ _ _,by rw [htm];exact hz.2.trans hs.size⟩
  refine wpIn_mono (ihx (E.inRound l S2) (hE.inRound l S2) rfl hN c2 [] _ _ S2 c2 _ w2 (hwc l) sim2) fun e a3 w3 hq3 => ?_
  obtain ⟨ae,ts3,S3,c3,h1,h2,h3⟩:=hq3
  cases ae with
  | exit i=>exact h2.elim
  | ret=>exact h2.elim
  | panic v=>exact h2.elim
  | normal =>
  cases e <;> first | exact h1.elim | skip
  obtain ⟨hlive3,h2⟩:S3.heap[i]? = some (some (.loop ready))∧WC (E.inRound l (S3.put i (.loop (busyL ready)))) my (roundQ i ready R2) ts3 (S3.put i (.loop (busyL ready))):=h2
  have hm3:c3.μ i=some l:=h3.le.μ _ _ hm2
  obtain ⟨hL3,st4⟩:=h3.st.loopIn (busyL ready) hlive3 hm3
  refine ⟨w3.putObj l (.loop (busyL ready)),run_beginRound hL3 (by rw [hready]), ?_⟩
  have sim4:Sim (E.inRound l (S3.put i (.loop (busyL ready)))) c3 c3 a3.defers ts3 (S3.put i (.loop (busyL ready))) a3 (w3.putObj l (.loop (busyL ready))):=
   ⟨(Cx.le.refl _).S,hC _,⟨fun i n e=>(st4.dom i n e).1,fun k x e=>(st4.tdom k x e).1⟩,st4,fun d v hv=>h3.ts d v hv,Marks.nil _ _ _ _,h3.size⟩
  refine wpIn_mono (ihy (E.inRound l (S3.put i (.loop (busyL ready)))) (hE.inRound l _) rfl hN _ a3.defers _ _ _ _ _ _ h2 sim4) fun e a5 w5 hq5 => ?_
  obtain ⟨ae,ts5,S5,c5,h4,h5,h6⟩:=hq5
  have hle5:c2.leS c5:=h3.le.trans h6.le
  have hm5:c5.μ i=some l:=hle5.μ _ _ hm2
  have back:∀ (S6:St) (w6:World),StRel c5 S6 w6→StRel (c5.withXO c2.XO) S6 w6:=fun S6 w6 h7=>h7.withXO _ (fun b ob e=>h7.XO b ob (hle5.XO b ob e)) fun i n B _ _ _ e=>by
   cases hx:c2.XO n with
   | none=>rfl
   | some ob=>rw [hle5.XO n ob hx] at e;cases e
  cases ae with
  | exit i=>exact h5.elim
  | panic v=>exact h5.elim
  | normal =>
   cases e <;> first | exact h4.elim | skip
   obtain ⟨hlive5,h5⟩:S5.heap[i]? = some (some (.loop (busyL ready)))∧R2 (.bool true) (S5.put i (.loop ready)):=h5
   obtain ⟨hL5,st6⟩:=h6.st.loopIn ready hlive5 hm5
   have hr6:({ busyL ready with state:=.ready,pending:=none }:Loop)=ready:=by rw [hready];rfl
   refine ⟨.bool true,w5.putObj l (.loop ready), ?_,.bool true,rfl,.bool true,_,c5.withXO c2.XO,hle5.back,h5,.bool true,back _ _ st6⟩
   have:=run_endRound (P:=E.P) none hL5
   simp only [Option.isNone_none,if_true] at this
   rw [hr6] at this;exact this
  | ret =>
   cases e <;> first | exact h4.elim | skip
   obtain ⟨hlive5,h5⟩:S5.heap[i]? = some (some (.loop (busyL ready)))∧R2 (.bool false) (S5.put i (.loop (stopL ready))):=h5
   obtain ⟨hL5,st6⟩:=h6.st.loopIn (stopL ready) hlive5 hm5
   refine ⟨.bool false,w5.putObj l (.loop (stopL ready)), ?_,.bool false,rfl,.bool false,_,c5.withXO c2.XO,hle5.back,h5,.bool false,back _ _ st6⟩
   have:=run_endRound (P:=E.P) (some .ret) hL5
   exact this
 ·refine LRel.cons (.func _ [] [] _ _ rfl rfl (fun j x v h=>by simp at h) (fun j x v h=>by simp at h)) ⟨by simpa using hl',fun j x v h1 h2=>(((hcc j x v h1 (by simpa using h2)).withXO fa).mono hleP)⟩
theorem zBt {P:Program} {b:Frame} {a:Act} {k:List Item} {cs:List Frame} {w:World} {c:Code}:step P (lone (b.atR a (.code (.scope c) :: k)) cs w)=.next (lone (b.atR a (.code c :: .inScope c :: k)) cs w):=
 step_lone_go (by simp [stepG,stepG.exec,Frame.atR])
theorem stepR_inScope {P:Program} {b:Frame} {a:Act} {k:List Item} {cs:List Frame} {w:World} {c:Code}:step P (lone (b.atR a (.inScope c :: k)) cs w)=.next (lone (b.atR a k) cs w):=
 step_lone_go (by simp [stepG,stepG.exec,Frame.atR])
theorem wpIn_scope {F:Fence} {n:Nat} {P:Program} {Q:Exit→Act→World→Prop} {a:Act} {w:World} {c:Code} (h:c.wpIn F n P Q a w) (hg:∀ l a w,¬ Q (.goto l) a w):(Code.scope c).wpIn F n P Q a w:=by
 intro b k cs hro hb hr
 have h0:(lone (b.atR a (.code (.scope c) :: k)) cs w).fenced P F:=fenced_calm hb hr rfl
 obtain ⟨e,a₁,w₁,hq,harr⟩:=h b (.inScope c :: k) cs hro hb hr
 cases e with
 | normal=>exact ⟨.normal,a₁,w₁,hq,.head h0 zBt (StepsIn.trans harr (.one (fenced_calm hb hr rfl) stepR_inScope))⟩
 | exit id =>
  have hx:exitTo id (.inScope c :: k)=exitTo id k:=by simp [exitTo]
  exact ⟨.exit id,a₁,w₁,hq,fun k' hk=>.head h0 zBt (harr.1 k' (by rw [hx];exact hk)),
   fun hr' hk=>let ⟨k₁,h1,h2⟩:=harr.2 hr' (by rw [hx];exact hk);⟨k₁,h1,.head h0 zBt h2⟩⟩
 | goto l=>exact (hg _ _ _ hq).elim
 | ret=>exact ⟨_,a₁,w₁,hq,.of_steps (.one h0 zBt) harr⟩
 | panic ch=>exact ⟨_,a₁,w₁,hq,.of_steps (.one h0 zBt) harr⟩
 | outgrown=>exact ⟨_,a₁,w₁,hq,.of_steps (.one h0 zBt) harr⟩
theorem WC_ok {N:Nat} {P:Program} (hdraw:∀ (E:Env),E.Ok→E.P=P → ∀ (id:Nat) (ops:Array Oper) (hs:List Bool) (m:Nat) (Q:AQ) (ts:TS) (S:St) (c0 c:Cx) (ds:List Deferred) (a:Act) (w:World),dstsOk E.N ops=true→drawOk ops hs m=true → ∀ Z:List Nat,(∀ p∈Z,p<S.heap.length)→QPreZ E Z ops (WOps E ops Q (ops.toList.drop m)) m ops.toList hs S ts S→Sim E c0 c ds ts S a w→(Code.region id ops true).wpIn E.F 0 E.P (lft E c0 ds Q) a w) :
  ∀ {x:Code} {y:MC} (hf:Fits N x y) (E:Env) (hE:E.Ok) (hP:E.P=P) (hN:E.N=N) (c0:Cx) (ds:List Deferred) (Q:AQ) (ts:TS) (S:St) (c:Cx) (a:Act) (w:World),WC E y Q ts S→Sim E c0 c ds ts S a w→x.wpIn E.F 0 E.P (lft E c0 ds Q) a w:=by
 intro x y hf
 induction hf with
 | skip=>intro E hE hP hN c0 ds Q ts S c a w h hs;exact wpIn_skip ⟨.normal,ts,S,c,trivial,h,hs⟩
 | label l=>intro E hE hP hN c0 ds Q ts S c a w h hs;exact wpIn_label ⟨.normal,ts,S,c,trivial,h,hs⟩
 | seq a b x y _ _ ihx ihy =>
  intro E hE hP hN c0 ds Q ts S c a w h hs
  refine wpIn_seq (wpIn_mono (ihx E hE hP hN c0 ds _ ts S c a w h hs) fun e a' w' hq => ?_)
  obtain ⟨ae,ts',S',c',h1,h2,h3⟩:=hq
  cases ae with
  | normal=>cases e <;> first | exact ihy E hE hP hN c0 ds Q ts' S' c' a' w' h2 h3 | exact h1.elim
  | exit i=>cases e <;> first | exact ⟨_,ts',S',c',h1,h2,h3⟩ | exact h1.elim
  | ret=>cases e <;> first | exact ⟨_,ts',S',c',h1,h2,h3⟩ | exact h1.elim
  | panic v=>cases e <;> first | exact ⟨_,ts',S',c',h1,h2,h3⟩ | exact h1.elim
 | cond cc a b x y _ _ ihx ihy =>
  intro E hE hP hN c0 ds Q ts S c a w h hs
  simp only [WC] at h
  split at h
  ·rename_i b hb
   have hc:=zAh hs.ts hb
   generalize hq:a.eval cc=q at hc
   cases hc
   refine wpIn_cond hq ?_
   cases b
   ·exact ihy E hE hP hN c0 ds Q ts S c a w (by simpa using h) hs
   ·exact ihx E hE hP hN c0 ds Q ts S c a w (by simpa using h) hs
  ·exact h.elim
 | block id a x _ ih =>
  intro E hE hP hN c0 ds Q ts S c a w h hs
  refine wpIn_block (wpIn_mono (ih E hE hP hN c0 ds _ ts S c a w h hs) fun e a' w' hq => ?_)
  obtain ⟨ae,ts',S',c',h1,h2,h3⟩:=hq
  cases ae with
  | normal=>cases e <;> first | exact ⟨_,ts',S',c',h1,h2,h3⟩ | exact h1.elim
  | exit i =>
   cases e <;> first | exact h1.elim | skip
   rename_i j
   simp only [XRel] at h1
   subst h1
   simp only [Exit.inBlock]
   simp only [blockQ] at h2
   split
   ·rename_i e;rw [if_pos e] at h2;exact ⟨.normal,ts',S',c',trivial,h2,h3⟩
   ·rename_i e;rw [if_neg e] at h2;exact ⟨.exit i,ts',S',c',rfl,h2,h3⟩
  | ret=>cases e <;> first | exact ⟨_,ts',S',c',h1,h2,h3⟩ | exact h1.elim
  | panic v=>cases e <;> first | exact ⟨_,ts',S',c',h1,h2,h3⟩ | exact h1.elim
 | loop a x _ ih =>
  intro E hE hP hN c0 ds Q ts S c a w h hs
  obtain ⟨I,⟨n,h0⟩,hr⟩:=h
  refine wpIn_loop_idx (fun n a w => ∃ ts S c,I n ts S∧Sim E c0 c ds ts S a w) (n:=n) ⟨ts,S,c,h0,hs⟩ ?_
  intro n a w ⟨ts,S,c,hI,hs⟩
  refine wpIn_mono (ih E hE hP hN c0 ds _ ts S c a w (hr n ts S hI) hs) fun e a' w' hq => ?_
  obtain ⟨ae,ts',S',c',h1,h2,h3⟩:=hq
  cases ae with
  | normal =>
   cases e <;> first | exact h1.elim | skip
   obtain ⟨m,hm,h2 | ⟨ts2,S2,hb,ht,hg,hsub,hI2⟩⟩:=h2
   ·exact ⟨m,hm,_,_,_,h2,h3⟩
   ·exact ⟨m,hm,ts2,S2,_,hI2,h3.gc hb ht hg hsub⟩
  | exit i=>cases e <;> first | exact ⟨_,ts',S',c',h1,h2,h3⟩ | exact h1.elim
  | ret=>cases e <;> first | exact ⟨_,ts',S',c',h1,h2,h3⟩ | exact h1.elim
  | panic v=>cases e <;> first | exact ⟨_,ts',S',c',h1,h2,h3⟩ | exact h1.elim
 | exit id=>intro E hE hP hN c0 ds Q ts S c a w h hs;exact wpIn_exit ⟨.exit id,ts,S,c,rfl,h,hs⟩
 | ret=>intro E hE hP hN c0 ds Q ts S c a w h hs;exact wpIn_ret ⟨.ret,ts,S,c,trivial,h,hs⟩
 | region id ops ks l hfo =>
  intro E hE hP hN c0 ds Q ts S c a w h hs
  subst hN
  refine wpIn_mono (wpIn_region ?_) (lft_keep ks)
  exact wops_ok hE (dstsOk_get (by have:=hfo.dsts;exact this)) ops.toList (List.range ops.size) ts S c a w (range_ops ops) (opsM_ok _ _ _ _ hfo h) hs
 | regionB id ops ks l1 m l2 hm hfo =>
  intro E hE hP hN c0 ds Q ts S c a w h hs
  subst hN
  refine wpIn_mono (wpIn_region ?_) (lft_keep ks)
  exact wops_ok hE (dstsOk_get (by have:=hfo.dsts;exact this)) ops.toList (List.range ops.size) ts S c a w (range_ops ops) (opsB_ok hfo hm h) hs
 | draw id ops ks m fs l hd hfo =>
  intro E hE hP hN c0 ds Q ts S c a w h hs
  subst hN
  refine wpIn_mono (hdraw E hE hP id ops fs m _ ts S c0 c ds a w (by have:=hfo.dsts;exact this) hd [] (fun p hp=>by cases hp) (QPre.toZ _ _ _ _ _ _ (preM_ok (fun ts S hk=>opsM_ok _ _ ts S (hfo.drop m) hk) _ _ _ _ _ _ _ hfo h)) hs) (lft_keep ks)
 | drawZ id ops ks m fs l hd hfo =>
  intro E hE hP hN c0 ds Q ts S c a w h hs
  subst hN
  obtain ⟨Z,hz,h⟩:=h
  refine wpIn_mono (hdraw E hE hP id ops fs m _ ts S c0 c ds a w (by have:=hfo.dsts;exact this) hd Z hz (preZ_ok (fun ts S hk=>opsM_ok _ _ ts S (hfo.drop m) hk) _ _ _ _ _ _ _ hfo h) hs) (lft_keep ks)
 | scope a x _ ih=>intro E hE hP hN c0 ds Q ts S c ac w h hs;exact wpIn_scope (ih E hE hP hN c0 ds Q ts S c ac w h hs) fun l a w ⟨ae,ts',S',c',h1,_⟩=>by cases ae <;> exact h1.elim
 | rangeFunc g ps a b x y hp _ _ ihx ihy =>
  intro E hE hP hN c0 ds Q ts S c ac w h hs
  rcases h with h | h
  ·exact rf_ok hE hP hN ihx ihy hp h hs
  ·exact rf2_ok hE hP hN ihx ihy hp h hs
def toMOs (N:Nat) (ops:Array Oper):List Oper→Option (List MO)
 | []=>some []
 | o :: l=>if dstOk N o.dst then
   match shortG ops o,toMOs N ops l with
   | some g,some l'=>some (⟨g,o.dst,o.op⟩ :: l')
   | _,_=>none
  else none
def toMC (N:Nat) (ks:Nat→List Nat) (dm:Nat→Nat × List Bool):Code→Option MC
 | .skip=>some .skip
 | .label _=>some .skip
 | .seq a b=>match toMC N ks dm a,toMC N ks dm b with
  | some x,some y=>some (.seq x y)
  | _,_=>none
 | .cond c a b=>match toMC N ks dm a,toMC N ks dm b with
  | some x,some y=>some (.cond c x y)
  | _,_=>none
 | .block id a=>(toMC N ks dm a).map (.block id)
 | .loop a=>(toMC N ks dm a).map .loop
 | .exit id=>some (.exit id)
 | .ret=>some .ret
 | .region id ops false=>(toMOs N ops ops.toList).map (.region (ks id))
 | .region id ops true=>if drawOk ops (dm id).2 (dm id).1 then (if (dm id).2.length=ops.size+1 then (toMOs N ops ops.toList).map (.drawZ (ks id) (dm id).1 (dm id).2) else (toMOs N ops ops.toList).map (.draw (ks id) (dm id).1 (dm id).2)) else none
 | .scope a=>toMC N ks dm a
 | .rangeFunc g ps a b=>if ps.toList.all (fun p=>decide (p<N)) then
   match toMC N ks dm a,toMC N ks dm b with
   | some x,some y=>some (.rangeFunc g ps.toList x y)
   | _,_=>none
  else none
 | _=>none
theorem toMOs_ok {N:Nat} {ops:Array Oper}:∀ (l:List Oper) (l':List MO),toMOs N ops l=some l'→FitsO N ops l l'
 | [],l',e=>by simp only [toMOs,yT] at e;subst e;exact .nil
 | o :: l,l',e=>by
  simp only [toMOs] at e
  split at e
  ·rename_i hd
   split at e
   ·rename_i g l2 h1 h2
    simp only [yT] at e;subst e
    exact .cons o _ l l2 hd h1 rfl rfl (toMOs_ok l l2 h2)
   ·cases e
  ·cases e
theorem toMC_ok {N:Nat} {ks:Nat→List Nat} {dm:Nat→Nat × List Bool}:∀ (x:Code) (y:MC),toMC N ks dm x=some y→Fits N x y:=by
 intro x
 induction x with
 | skip=>intro y e;simp only [toMC,yT] at e;subst e;exact .skip
 | label l=>intro y e;simp only [toMC,yT] at e;subst e;exact .label l
 | seq a b iha ihb =>
  intro y e
  simp only [toMC] at e
  split at e
  ·rename_i x1 y1 h1 h2;simp only [yT] at e;subst e;exact .seq a b _ _ (iha _ h1) (ihb _ h2)
  ·cases e
 | cond c a b iha ihb =>
  intro y e
  simp only [toMC] at e
  split at e
  ·rename_i x1 y1 h1 h2;simp only [yT] at e;subst e;exact .cond c a b _ _ (iha _ h1) (ihb _ h2)
  ·cases e
 | block id a ih =>
  intro y e
  simp only [toMC,zK] at e
  obtain ⟨x1,h1,rfl⟩:=e
  exact .block id a _ (ih _ h1)
 | loop a ih =>
  intro y e
  simp only [toMC,zK] at e
  obtain ⟨x1,h1,rfl⟩:=e
  exact .loop a _ (ih _ h1)
 | exit id=>intro y e;simp only [toMC,yT] at e;subst e;exact .exit id
 | ret=>intro y e;simp only [toMC,yT] at e;subst e;exact .ret
 | region id ops draw =>
  intro y e
  cases draw with
  | false =>
   simp only [toMC,zK] at e
   obtain ⟨l,h1,rfl⟩:=e
   exact .region id ops _ l (toMOs_ok _ _ h1)
  | true =>
   simp only [toMC] at e
   split at e
   ·rename_i hd
    split at e
    ·simp only [zK] at e
     obtain ⟨l,h1,rfl⟩:=e
     exact .drawZ id ops _ _ _ l hd (toMOs_ok _ _ h1)
    ·simp only [zK] at e
     obtain ⟨l,h1,rfl⟩:=e
     exact .draw id ops _ _ _ l hd (toMOs_ok _ _ h1)
   ·cases e
 | rangeFunc g ps a b iha ihb =>
  intro y e
  simp only [toMC] at e
  split at e
  ·rename_i hp
   split at e
   ·rename_i x1 y1 h1 h2;simp only [yT] at e;subst e;exact .rangeFunc g ps a b _ _ hp (iha _ h1) (ihb _ h2)
   ·cases e
  ·cases e
 | scope a ih=>intro y e;simp only [toMC] at e;exact .scope a y (ih y e)
 | goto=>intro y e;simp only [toMC] at e;cases e
 | refuse=>intro y e;simp only [toMC] at e;cases e
end Go.Av
end
