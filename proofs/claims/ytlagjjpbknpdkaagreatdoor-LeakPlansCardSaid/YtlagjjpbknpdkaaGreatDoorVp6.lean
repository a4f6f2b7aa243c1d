/- Part 6 of the proof. -/
import Derived.Test.YtlagjjpbknpdkaaGreatDoorVp5
set_option linter.all false
set_option linter.unusedVariables false
set_option linter.unusedSimpArgs false
set_option linter.unusedSectionVars false
open Nat (reduceEqDiff reduceAdd reduceLeDiff)
section
namespace Go.Av
open Go
structure MO where
 g : Option (Nat × Bool)
 d : Option Nat
 o : Op
inductive MC where
 | skip
 | region (keep : List Nat) (l : List MO)
 | draw (keep : List Nat) (m : Nat) (hs : List Bool) (l : List MO)
 | seq (a b : MC)
 | cond (c : Operand) (a b : MC)
 | block (id : Nat) (a : MC)
 | loop (a : MC)
 | exit (id : Nat)
 | ret
 | rangeFunc (g : Operand) (ps : List Nat) (a b : MC)
def guardM (ts : TS) : Option (Nat × Bool) → Option Bool
 | none => some true
 | some (t, b) => match ts.get t with
  | some (.bool x) => some (x == b)
  | some (.tuple _) => some false
  | _ => none
def opM (E : Env) (o : Op) (ts : TS) (S : St) (K : AV → St → Prop) (Q : AQ) : Prop :=
 match astepO E.T S ts o with
 | some r => r.ok S ∧ K (r.app S).1 (r.app S).2
 | none => match o with
  | .call c => match callee E ts c with
   | some (f, args) => WCall E f args S K (panK Q ts)
   | none => match yieldee ts c with
    | some (l, args) => WYield E l args S K
    | none => False
  | .panic x => match aeval ts x with
   | some (.iface t v) => Q (.panic (.iface t v)) ts S
   | _ => False
  | _ => False
def opsM (E : Env) (Q : AQ) : List MO → TS → St → Prop
 | [], ts, S => Q .normal ts S
 | m :: rest, ts, S => match guardM ts m.g with
  | some true => opM E m.o ts S (contK (opsM E Q rest) ts m.d) Q
  | some false => opsM E Q rest (setT ts m.d .undef) S
  | none => False
def preM (E : Env) (K : TS → St → Prop) : Nat → List MO → List Bool → St → TS → St → Prop
 | 0, _, _, _, ts, S => K ts S
 | _ + 1, [], _, _, _, _ => False
 | n + 1, m :: rest, hs, b, ts, S => match guardM ts m.g with
  | some false => preM E K n rest hs.tail b (setT ts m.d .undef) S
  | some true => QOp E (hs.headD false) b m.o ts S (fun v S' b' => preM E K n rest hs.tail b' (setT ts m.d v) S')
  | none => False
def keepQ (ks : List Nat) (Q : AQ) : AQ
 | .normal, ts, S => Q .normal (ts.keep ks) S
 | e, ts, S => Q e ts S
def Env.inRound (E : Env) (l : Nat) (S : St) : Env := { E with R := some l, base := S.heap.length, bt := S.nt }
theorem Env.Ok.inRound {E : Env} (h : E.Ok) (l : Nat) (S : St) : (E.inRound l S).Ok := ⟨h.T, h.M, h.Cle, h.Y⟩
def zipTS : List Nat → List AV → TS → TS
 | p :: ps, v :: vs, ts => zipTS ps vs (ts.set p v)
 | _, _, ts => ts
def IterC (P : Program) (gf : FuncId) (caps : List AV) (S : St) (Y : List AV → St → (AV → St → Prop) → Prop) (R : St → Prop) : Prop :=
 ∀ (l : Nat) (C : Cx → Prop), (∀ c c' : Cx, c.leS c' → C c → C c') →
  (∀ args S2 R2 c w vs, Y args S2 R2 → C c → StRel c S2 w → LRel c args vs → YieldW P l vs w fun v w' => ∃ av S' c', c.le c' ∧ R2 av S' ∧ VRel c' av v ∧ StRel c' S' w') →
  ∀ c w vs, C c → StRel c S w → LRel c (.func (.yield l) [] [] :: caps) vs → Calls P gf vs.toArray w fun e w' => ∃ x S' c', e = .returned x ∧ c.le c' ∧ R S' ∧ StRel c' S' w'
def onlyN (K : TS → St → Prop) : AQ
 | .normal, ts, S => K ts S
 | _, _, _ => False
def WC : Env → MC → AQ → TS → St → Prop
 | _, .skip, Q, ts, S => Q .normal ts S
 | E, .seq x y, Q, ts, S => WC E x (thenQ (WC E y Q) Q) ts S
 | E, .cond c x y, Q, ts, S => match aeval ts c with
  | some (.bool b) => if b = true then WC E x Q ts S else WC E y Q ts S
  | _ => False
 | E, .block id x, Q, ts, S => WC E x (blockQ id Q) ts S
 | E, .loop x, Q, ts, S => ∃ I : Nat → TS → St → Prop, (∃ n, I n ts S) ∧ ∀ n ts S, I n ts S → WC E x (thenQ (again I E.base E.bt n) Q) ts S
 | _, .exit id, Q, ts, S => Q (.exit id) ts S
 | _, .ret, Q, ts, S => Q .ret ts S
 | E, .region ks l, Q, ts, S => opsM E (keepQ ks Q) l ts S
 | E, .draw ks m hs l, Q, ts, S => preM E (opsM E (keepQ ks Q) (l.drop m)) m l hs S ts S
 | E, .rangeFunc g ps x y, Q, ts, S => (∀ c, E.C c) ∧ E.R = none ∧ E.K = true ∧ ∃ gf caps R, aeval ts g = some (.func (.func gf) [] caps) ∧ Callable E.P gf ∧
   IterC E.P gf caps S (fun args S1 R1 => args.length = ps.length ∧ ∀ l, WC (E.inRound l S1) x (onlyN fun ts2 S2 => WC (E.inRound l S2) y (onlyN fun _ S3 => R1 (.bool true) S3) ts2 S2) (zipTS ps args ts) S1) R ∧
   ∀ S', R S' → Q .normal ts S'
def shortG (ops : Array Oper) (o : Oper) : Option (Option (Nat × Bool)) :=
 match o.guard with
 | none => some none
 | some (j, b) => ((ops[j]?).bind (·.dst)).map fun t => some (t, b)
inductive FitsO (N : Nat) (ops : Array Oper) : List Oper → List MO → Prop where
 | nil : FitsO N ops [] []
 | cons (o : Oper) (m : MO) (l : List Oper) (l' : List MO) (hd : dstOk N o.dst = true) (hg : shortG ops o = some m.g) (h1 : o.dst = m.d) (h2 : o.op = m.o) (h : FitsO N ops l l') : FitsO N ops (o :: l) (m :: l')
inductive Fits (N : Nat) : Code → MC → Prop where
 | skip : Fits N .skip .skip
 | label (l : Nat) : Fits N (.label l) .skip
 | seq (a b : Code) (x y : MC) (h : Fits N a x) (h' : Fits N b y) : Fits N (.seq a b) (.seq x y)
 | cond (c : Operand) (a b : Code) (x y : MC) (h : Fits N a x) (h' : Fits N b y) : Fits N (.cond c a b) (.cond c x y)
 | block (id : Nat) (a : Code) (x : MC) (h : Fits N a x) : Fits N (.block id a) (.block id x)
 | loop (a : Code) (x : MC) (h : Fits N a x) : Fits N (.loop a) (.loop x)
 | exit (id : Nat) : Fits N (.exit id) (.exit id)
 | ret : Fits N .ret .ret
 | region (id : Nat) (ops : Array Oper) (ks : List Nat) (l : List MO) (h : FitsO N ops ops.toList l) : Fits N (.region id ops false) (.region ks l)
 | draw (id : Nat) (ops : Array Oper) (ks : List Nat) (m : Nat) (hs : List Bool) (l : List MO) (hd : drawOk ops hs m = true) (h : FitsO N ops ops.toList l) : Fits N (.region id ops true) (.draw ks m hs l)
 | scope (a : Code) (x : MC) (h : Fits N a x) : Fits N (.scope a) x
 | rangeFunc (g : Operand) (ps : Array Tmp) (a b : Code) (x y : MC) (hp : ps.toList.all (fun p => decide (p < N)) = true) (h : Fits N a x) (h' : Fits N b y) : Fits N (.rangeFunc g ps a b) (.rangeFunc g ps.toList x y)
theorem FitsO.dsts {N : Nat} {ops : Array Oper} {l : List Oper} {l' : List MO} (h : FitsO N ops l l') : l.all (fun o => dstOk N o.dst) = true := by
 induction h with
 | nil => rfl
 | cons o m l l' hd _ _ _ _ ih => simp only [List.all_cons, hd, ih, Bool.and_self]
theorem guardM_ok {ops : Array Oper} {ts : TS} {o : Oper} {g : Option (Nat × Bool)} (h : shortG ops o = some g) : guardM ts g = wantedA ops ts o := by
 unfold shortG at h
 unfold wantedA
 split at h
 ·rename_i hg; simp only [Option.some.injEq] at h; subst h; rw [hg]; rfl
 ·rename_i j b hg
  simp only [Option.map_eq_some_iff] at h
  obtain ⟨t, ht, rfl⟩ := h
  rw [hg]
  simp only [guardM, yieldedA, ht, Option.bind_some]
  cases hq : ts.get t with
  | none => rfl
  | some v => cases v <;> rfl
theorem opsM_ok {E : Env} {ops : Array Oper} {Q : AQ} : ∀ (l : List Oper) (l' : List MO) (ts : TS) (S : St), FitsO E.N ops l l' → opsM E Q l' ts S → WOps E ops Q l ts S := by
 intro l l' ts S h
 induction h generalizing ts S with
 | nil => exact fun h => h
 | cons o m l l' hd hg h1 h2 hr ih =>
  intro h
  simp only [opsM] at h
  rw [guardM_ok hg] at h
  refine ⟨hd, ?_⟩
  split at h
  ·rename_i hw
   rw [hw]
   unfold opM at h
   rw [← h2, ← h1] at h
   simp only [WOp, astep]
   split at h
   ·rename_i r hr'
    rw [hr']
    exact ⟨h.1, ih _ _ h.2⟩
   ·rename_i hr'
    rw [hr']
    split at h
    ·rename_i c hc
     simp only [hc]
     split at h
     ·rename_i f args hcl
      rw [hcl]
      obtain ⟨a1, args', R, a2, a3, a4, a5⟩ := h
      exact ⟨a1, args', R, a2, a3, fun v S' hR => ih _ _ (a4 v S' hR), a5⟩
     ·rename_i hcl
      rw [hcl]
      simp only
      split at h
      ·rename_i l args hy
       rw [hy]
       obtain ⟨R, h1, h2⟩ := h
       exact ⟨R, h1, fun v S' hR => ih _ _ (h2 v S' hR)⟩
      ·exact h.elim
    ·rename_i x hc
     simp only [hc]
     exact h
    ·exact h.elim
  ·rename_i hw
   rw [hw]
   rw [← h1] at h
   exact ih _ _ h
  ·exact h.elim
theorem QOp.mono {E : Env} {f : Bool} {b : St} {o : Op} {ts : TS} {S : St} {K K' : AV → St → St → Prop} (hK : ∀ v S b, K v S b → K' v S b) (h : QOp E f b o ts S K) : QOp E f b o ts S K' := by
 unfold QOp at *
 split
 ·rename_i hf
  simp only [hf, if_true] at h
  split at h
  ·rename_i r hr; exact ⟨h.1, hK _ _ _ h.2⟩
  ·exact h.elim
 ·rename_i hf
  simp only [if_neg hf] at h
  split
  ·rename_i hw
   simp only [hw, if_true] at h
   split at h
   ·exact ⟨h.1, hK _ _ _ h.2⟩
   ·exact h.elim
  ·rename_i hw
   simp only [if_neg hw] at h
   split at h
   ·exact ⟨h.1, h.2.1, hK _ _ _ h.2.2⟩
   ·split at h
    ·split at h
     ·obtain ⟨a1, args', r, a2, a3, a4, a5, a6⟩ := h
      exact ⟨a1, args', r, a2, a3, a4, a5, hK _ _ _ a6⟩
     ·exact h.elim
    ·exact h.elim
theorem preM_ok {E : Env} {ops : Array Oper} {K K' : TS → St → Prop} (hK : ∀ ts S, K ts S → K' ts S) : ∀ (n : Nat) (l : List Oper) (l' : List MO) (hs : List Bool) (b : St) (ts : TS) (S : St), FitsO E.N ops l l' → preM E K n l' hs b ts S → QPre E ops K' n l hs b ts S := by
 intro n
 induction n with
 | zero => intro l l' hs b ts S h hp; exact hK _ _ hp
 | succ n ih =>
  intro l l' hs b ts S h hp
  cases h with
  | nil => exact hp.elim
  | cons o m l l' hd hg h1 h2 hr =>
   simp only [preM] at hp
   rw [guardM_ok hg] at hp
   refine ⟨hd, ?_⟩
   split at hp
   ·rename_i hw
    rw [hw]
    rw [← h1] at hp
    exact ih _ _ _ _ _ _ hr hp
   ·rename_i hw
    rw [hw]
    rw [← h2, ← h1] at hp
    exact hp.mono fun v S' b' hq => ih _ _ _ _ _ _ hr hq
   ·exact hp.elim
theorem FitsO.drop {N : Nat} {ops : Array Oper} : ∀ {l : List Oper} {l' : List MO} (m : Nat), FitsO N ops l l' → FitsO N ops (l.drop m) (l'.drop m)
 | _, _, 0, h => h
 | _, _, m + 1, .nil => .nil
 | _, _, m + 1, .cons _ _ _ _ _ _ _ _ h => h.drop m
theorem lft_keep {E : Env} {c0 : Cx} {ds : List Deferred} {Q : AQ} (ks : List Nat) (e : Exit) (a : Act) (w : World) (hq : lft E c0 ds (keepQ ks Q) e a w) : lft E c0 ds Q e a w := by
 obtain ⟨ae, ts', S', c', h1, h2, h3⟩ := hq
 cases ae with
 | normal => exact ⟨.normal, ts'.keep ks, S', c', h1, h2, h3.keep ks⟩
 | exit i => exact ⟨_, ts', S', c', h1, h2, h3⟩
 | ret => exact ⟨_, ts', S', c', h1, h2, h3⟩
 | panic v => exact ⟨_, ts', S', c', h1, h2, h3⟩
theorem zipTS_ok {c : Cx} : ∀ (ps : List Nat) (args : List AV) (vs : List Value) (ts : TS) (tmps : Array Value), LRel c args vs → ps.length = args.length → (∀ p ∈ ps, p < tmps.size) → TsRel c ts tmps →
  TsRel c (zipTS ps args ts) ((ps.zip vs).foldl (fun t (x : Nat × Value) => t.setIfInBounds x.1 x.2) tmps) ∧ ((ps.zip vs).foldl (fun t (x : Nat × Value) => t.setIfInBounds x.1 x.2) tmps).size = tmps.size
 | [], args, vs, ts, tmps, _, _, _, ht => by
  simp only [zipTS, List.zip_nil_left, List.foldl_nil]; exact ⟨ht, trivial⟩
 | p :: ps, [], vs, ts, tmps, _, hl, _, _ => by simp at hl
 | p :: ps, v :: args, vs, ts, tmps, hr, hl, hp, ht => by
  obtain ⟨u, us, rfl, h1, h2⟩ := hr.tail
  simp only [zipTS, List.zip_cons_cons, List.foldl_cons]
  have hps : p < tmps.size := hp p List.mem_cons_self
  have hts : TsRel c (ts.set p v) (tmps.setIfInBounds p u) := by
   intro d x hx
   simp only [TS.get_set] at hx
   simp only [Array.getD_eq_getD_getElem?, Array.getElem?_setIfInBounds]
   by_cases e : p = d
   ·subst e
    simp only [if_true, Option.some.injEq] at hx
    subst hx
    simp only [hps, if_true, Option.getD_some]; exact h1
   ·simp only [if_neg e] at hx ⊢
    have := ht d x hx
    simpa [Array.getD_eq_getD_getElem?] using this
  have ih := zipTS_ok ps args us (ts.set p v) (tmps.setIfInBounds p u) h2 (by simpa using hl) (fun q hq => by simpa using hp q (List.mem_cons_of_mem _ hq)) hts
  exact ⟨ih.1, by rw [ih.2]; simp⟩
theorem rf_ok {P : Program} {N : Nat} {E : Env} (hE : E.Ok) (hP : E.P = P) (hN : E.N = N) {assign body : Code} {mx my : MC}
  (ihx : ∀ (E : Env), E.Ok → E.P = P → E.N = N → ∀ (c0 : Cx) (ds : List Deferred) (Q : AQ) (ts : TS) (S : St) (c : Cx) (a : Act) (w : World), WC E mx Q ts S → Sim E c0 c ds ts S a w → assign.wpIn E.F 0 E.P (lft E c0 ds Q) a w)
  (ihy : ∀ (E : Env), E.Ok → E.P = P → E.N = N → ∀ (c0 : Cx) (ds : List Deferred) (Q : AQ) (ts : TS) (S : St) (c : Cx) (a : Act) (w : World), WC E my Q ts S → Sim E c0 c ds ts S a w → body.wpIn E.F 0 E.P (lft E c0 ds Q) a w)
  {g : Operand} {ps : Array Tmp} (hps : ps.toList.all (fun p => decide (p < N)) = true) {Q : AQ} {ts : TS} {S : St} {c0 c : Cx} {ds : List Deferred} {a : Act} {w : World}
  (h : WC E (.rangeFunc g ps.toList mx my) Q ts S) (hs : Sim E c0 c ds ts S a w) : (Code.rangeFunc g ps assign body).wpIn E.F 0 E.P (lft E c0 ds Q) a w := by
 obtain ⟨hC, hR, hK, gf, caps, R, hg, hgc, hit, hQ⟩ := h
 subst hP
 refine wpIn_rangeFunc fun fn hfn => ?_
 have hFr : E.F.round = none := hR
 rw [hFr]
 have hgv := aeval_ok hs.ts hg
 generalize hq : a.eval g = q at hgv
 cases hgv with
 | func _ _ _ f2 c2 hl hl' hff hcc =>
 have hf2 : f2 = #[] := by apply Array.ext'; simpa using hl.symm
 subst hf2
 obtain ⟨l, hl0⟩ : ∃ l, l = w.heap.size + 1 := ⟨_, rfl⟩
 obtain ⟨ready, hready⟩ : ∃ r : Loop, r = { state := .ready, pending := none, fn, tmps := a.tmps, params := ps, assign, body, defers := w.heap.size } := ⟨_, rfl⟩
 have fresh : ∀ b, w.heap.size ≤ b → c.XO b = none := fun b hb => by
  cases hx : c.XO b with
  | none => rfl
  | some o => have := (hs.st.XO b o hx).1; rw [Array.getElem?_eq_none hb] at this; cases this
 have sta := hs.st.allocHidden (.deferred (some [])) (by intro cs t g e; cases e)
 generalize hfa : (fun k => if k = w.heap.size then some (Obj.deferred (some [])) else c.XO k) = fa at sta
 have stb := sta.allocHidden (.loop ready) (by intro cs t g e; cases e)
 have hsz : (w.alloc (.deferred (some []))).heap.size = l := by rw [hl0]; simp
 rw [hsz] at stb
 generalize hfb : (fun k => if k = l then some (Obj.loop ready) else (c.withXO fa).XO k) = fb at stb
 have stb : StRel (c.withXO fb) S ((w.alloc (.deferred (some []))).alloc (.loop ready)) := stb
 have fbl : fb l = some (.loop ready) := by rw [← hfb]; simp
 have fal : fa l = none := by rw [← hfa]; simp only [hl0]; rw [if_neg (by omega)]; exact fresh _ (by omega)
 have faD : fa w.heap.size = some (.deferred (some [])) := by rw [← hfa]; simp
 have fab : ∀ b, b ≠ l → fb b = fa b := fun b hb => by rw [← hfb]; simp only [if_neg hb]; rfl
 have fac : ∀ b ob, c.XO b = some ob → fa b = some ob := fun b ob hb => by
  rw [← hfa]
  have : b ≠ w.heap.size := fun e => by rw [e, fresh _ (Nat.le_refl _)] at hb; cases hb
  simp only [if_neg this]; exact hb
 refine ⟨l, [markD w.heap.size], (w.alloc (.deferred (some []))).alloc (.loop ready), { target := .fn (.func gf) c2, args := #[.func (.yield l) #[] #[]] }, (w.alloc (.deferred (some []))).alloc (.loop ready), gf, #[.func (.yield l) #[] #[]] ++ c2,
  (w.alloc (.deferred (some []))).alloc (.loop ready), ?_, ?_, fun _ _ => trivial, ?_, fun hh => by simp [Env.F, Fence.wide] at hh, ?_⟩
 ·rw [hl0, hready]; exact run_enterLoop_outer _ _ _ _ _
 ·simp only [resolve, hq, Deferred.ofValue, Sem.run_bind, Sem.run_pure, Result.andThen_ok]
  simp [Act.eval]
 ·simp only [invoke]; exact callFunc_ok hgc _ _
 refine callsIn_F ?_
 have key := hit l (fun c' => (c.withXO fb).leS c') (fun c1 c2 hle e => e.trans hle) ?_ (c.withXO fb) _ (.func (.yield l) #[] #[] :: c2.toList) (Cx.le.refl _).S stb ?_
 ·have e1 : (Value.func (.yield l) #[] #[] :: c2.toList).toArray = #[.func (.yield l) #[] #[]] ++ c2 := by
   apply Array.ext'; simp
  rw [e1] at key
  refine key.mono fun e w7 ⟨x, S', c7, he, hle, hR', hst7⟩ => ?_
  subst he
  have hX7 : c7.XO = fb := hle.XO
  have hl7 : w7.heap[l]? = some (.loop ready) := (hst7.XO l _ (by rw [hX7]; exact fbl)).1
  refine ⟨none, w7.putObj l (.loop { ready with state := .exhausted }), ?_, ?_⟩
  ·have := run_endLoop (P := E.P) hl7 (by rw [hready]; simp)
   rw [this]; rw [hready]
  refine ⟨.normal, ts, S', c7.withXO fa, trivial, hQ S' hR', ?_⟩
  have st8 : StRel (c7.withXO fa) S' (w7.putObj l (.loop { ready with state := .exhausted })) := by
   have h0 : StRel (c7.withXO c7.XO) S' w7 := hst7
   have h1 := h0.dropHidden (D := l) (o := .loop ready) (o' := .loop { ready with state := .exhausted }) (by rw [hX7]; exact fbl) (by intro cs t g e; cases e)
   have h2 : (c7.withXO fa) = (c7.withXO fun k => if k = l then none else c7.XO k).withXO fa := rfl
   rw [h2]
   refine h1.withXO fa (fun b ob e => h1.XO b ob ?_) fun i n B _ _ _ e => ?_
   ·show (if b = l then none else c7.XO b) = some ob
    have hb : b ≠ l := fun e' => by rw [e', fal] at e; cases e
    rw [if_neg hb, hX7, fab b hb]; exact e
   ·have e : (if n = l then none else c7.XO n) = none := e
    by_cases hn : n = l
    ·rw [hn]; exact fal
    ·rw [if_neg hn, hX7, fab n hn] at e; exact e
  have hleS : c.leS (c7.withXO fa) := ⟨hle.K, hle.μ, hle.τ, hle.X, fac, hle.sz, hle.FZ, hle.μn, hle.τn⟩
  refine ⟨hs.le.trans hleS, hC _, hs.b0, st8, fun d v hv => ((((hs.ts d v hv).withXO fb).mono hle).withXO fa), ?_, hs.size⟩
  obtain ⟨ms, m1, m2, m3, _⟩ := hs.ds
  refine ⟨w.heap.size :: ms, ?_, ?_, ?_, fun hh => by rw [hK] at hh; cases hh⟩
  ·show [markD w.heap.size] ++ a.defers = _
   rw [m1]; rfl
  ·refine List.nodup_cons.2 ⟨fun hm => ?_, m2⟩
   have := (m3 _ hm).1
   rw [fresh _ (Nat.le_refl _)] at this; cases this
  ·intro D hD
   rcases List.mem_cons.1 hD with rfl | hD
   ·refine ⟨faD, ?_⟩
    cases hx : c0.XO w.heap.size with
    | none => rfl
    | some o => have := hs.le.XO _ _ hx; rw [fresh _ (Nat.le_refl _)] at this; cases this
   ·exact ⟨fac _ _ (m3 D hD).1, (m3 D hD).2⟩
 ·
  intro args S2 R2 c2 w2 vs ⟨hlen, hwc⟩ hC2' hst2 hlr
  have hC2 : c2.XO l = some (.loop ready) := hC2'.XO _ _ fbl
  have hL : w2.heap[l]? = some (.loop ready) := (hst2.XO l _ hC2).1
  have hvl : vs.length = ps.size := by have := hlr.1; rw [hlen] at this; simpa using this.symm
  have hy := run_yield (P := E.P) (args := vs.toArray) hL (by rw [hready]; simpa using hvl)
  refine ⟨_, _, _, _, hy, ?_⟩
  rw [hready]
  refine roundIn_of_wpIn (F := Fence.wide) trivial ?_
  have htm : (ps.zip vs.toArray).foldl (fun tmps (x : Tmp × Value) => tmps.setIfInBounds x.1 x.2) a.tmps = (ps.toList.zip vs).foldl (fun t (x : Nat × Value) => t.setIfInBounds x.1 x.2) a.tmps := by
   rw [← Array.foldl_toList, Array.toList_zip]
  have hpl : ∀ p ∈ ps.toList, p < a.tmps.size := fun p hp => by
   rw [hs.size, hN]; simpa using List.all_eq_true.1 hps p hp
  have hts2 : TsRel c2 ts a.tmps := fun d v hv => ((hs.ts d v hv).withXO fb).mono3 ⟨hC2'.K, hC2'.μ, hC2'.τ⟩
  have hz := zipTS_ok ps.toList args vs ts a.tmps hlr hlen.symm hpl hts2
  have sim2 : Sim (E.inRound l S2) c2 c2 [] (zipTS ps.toList args ts) S2 { tmps := (ps.zip vs.toArray).foldl (fun tmps (x : Tmp × Value) => tmps.setIfInBounds x.1 x.2) a.tmps, defers := [] } w2 :=
   ⟨(Cx.le.refl c2).S, hC _, ⟨fun i n e => (hst2.dom i n e).1, fun k x e => (hst2.tdom k x e).1⟩, hst2, by rw [htm]; exact hz.1, Marks.nil _ _ _ _, by rw [htm]; exact hz.2.trans hs.size⟩
  refine wpIn_mono (ihx (E.inRound l S2) (hE.inRound l S2) rfl hN c2 [] _ _ S2 c2 _ w2 (hwc l) sim2) fun e a3 w3 hq3 => ?_
  obtain ⟨ae, ts3, S3, c3, h1, h2, h3⟩ := hq3
  cases ae with
  | exit i => exact h2.elim
  | ret => exact h2.elim
  | panic v => exact h2.elim
  | normal =>
  cases e <;> first | exact h1.elim | skip
  have h2 : WC (E.inRound l S3) my (onlyN fun _ S3 => R2 (.bool true) S3) ts3 S3 := h2
  have hX3 := h3.le.XO l _ hC2
  have hL3 : w3.heap[l]? = some (.loop ready) := (h3.st.XO l _ hX3).1
  refine ⟨w3.putObj l (.loop { ready with state := .busy }), run_beginRound hL3 (by rw [hready]), ?_⟩
  have st4 : StRel (c3.withXO fun k => if k = l then some (.loop { ready with state := .busy }) else c3.XO k) S3 (w3.putObj l (.loop { ready with state := .busy })) :=
   StRel.putHidden (c := c3) (f := c3.XO) h3.st hX3 (by intro cs t g e; cases e)
  have sim4 : Sim (E.inRound l S3) (c3.withXO fun k => if k = l then some (.loop { ready with state := .busy }) else c3.XO k) (c3.withXO fun k => if k = l then some (.loop { ready with state := .busy }) else c3.XO k) a3.defers ts3 S3 a3 (w3.putObj l (.loop { ready with state := .busy })) :=
   ⟨(Cx.le.refl _).S, hC _, ⟨fun i n e => (st4.dom i n e).1, fun k x e => (st4.tdom k x e).1⟩, st4, fun d v hv => (h3.ts d v hv).withXO _, Marks.nil _ _ _ _, h3.size⟩
  refine wpIn_mono (ihy (E.inRound l S3) (hE.inRound l S3) rfl hN _ a3.defers _ _ S3 _ _ _ h2 sim4) fun e a5 w5 hq5 => ?_
  obtain ⟨ae, ts5, S5, c5, h4, h5, h6⟩ := hq5
  cases ae with
  | exit i => exact h5.elim
  | ret => exact h5.elim
  | panic v => exact h5.elim
  | normal =>
  cases e <;> first | exact h4.elim | skip
  have h5 : R2 (.bool true) S5 := h5
  have hX5 : c5.XO l = some (.loop { ready with state := .busy }) := h6.le.XO l _ (by show (if l = l then _ else _) = _; rw [if_pos rfl])
  have hL5 : w5.heap[l]? = some (.loop { ready with state := .busy }) := (h6.st.XO l _ hX5).1
  have hr6 : ({ ({ ready with state := .busy } : Loop) with state := .ready, pending := none } : Loop) = ready := by rw [hready]
  refine ⟨.bool true, w5.putObj l (.loop ready), ?_, .bool true, rfl, .bool true, S5, c5.withXO c2.XO, ?_, h5, .bool true, ?_⟩
  ·have := run_endRound (P := E.P) none hL5
   simp only [Option.isNone_none, if_true] at this
   rw [hr6] at this; exact this
  ·have k1 := h3.le
   have k2 := h6.le
   have k12 : (c2.withXO (c3.withXO fun k => if k = l then some (.loop { ready with state := .busy }) else c3.XO k).XO).leS c5 :=
    Cx.leS.trans (b := c3.withXO fun k => if k = l then some (.loop { ready with state := .busy }) else c3.XO k) ⟨k1.K, k1.μ, k1.τ, k1.X, fun _ _ e => e, k1.sz, k1.FZ, k1.μn, k1.τn⟩ k2
   exact ⟨k12.K, k12.μ, k12.τ, k12.X, rfl, k12.sz, k12.FZ, k12.μn, k12.τn⟩
  ·have h0 : StRel (c5.withXO c5.XO) S5 w5 := h6.st
   have h7 := h0.putHidden (D := l) (o' := .loop ready) hX5 (by intro cs t g e; cases e)
   have e7 : (c5.withXO c2.XO) = (c5.withXO fun k => if k = l then some (.loop ready) else c5.XO k).withXO c2.XO := rfl
   have sub : ∀ b ob, c2.XO b = some ob → (if b = l then some (.loop ready) else c5.XO b) = some ob := fun b ob e => by
    by_cases hb : b = l
    ·rw [if_pos hb]; rw [hb, hC2] at e; exact e
    ·rw [if_neg hb]
     refine h6.le.XO b ob ?_
     show (if b = l then _ else c3.XO b) = some ob
     rw [if_neg hb]; exact h3.le.XO b ob e
   rw [e7]
   refine h7.withXO _ (fun b ob e => h7.XO b ob (sub b ob e)) fun i n B _ _ _ e => ?_
   have e : (if n = l then some (.loop ready) else c5.XO n) = none := e
   cases hx : c2.XO n with
   | none => rfl
   | some ob => rw [sub n ob hx] at e; cases e
 ·refine LRel.cons (.func _ [] [] _ _ rfl rfl (fun j x v h => by simp at h) (fun j x v h => by simp at h)) ⟨by simpa using hl', fun j x v h1 h2 => (hcc j x v h1 (by simpa using h2)).withXO fb⟩
theorem stepR_scope {P : Program} {b : Frame} {a : Act} {k : List Item} {cs : List Frame} {w : World} {c : Code} : step P (lone (b.atR a (.code (.scope c) :: k)) cs w) = .next (lone (b.atR a (.code c :: .inScope c :: k)) cs w) :=
 step_lone_go (by simp [stepG, stepG.exec, Frame.atR])
theorem stepR_inScope {P : Program} {b : Frame} {a : Act} {k : List Item} {cs : List Frame} {w : World} {c : Code} : step P (lone (b.atR a (.inScope c :: k)) cs w) = .next (lone (b.atR a k) cs w) :=
 step_lone_go (by simp [stepG, stepG.exec, Frame.atR])
theorem wpIn_scope {F : Fence} {n : Nat} {P : Program} {Q : Exit → Act → World → Prop} {a : Act} {w : World} {c : Code} (h : c.wpIn F n P Q a w) (hg : ∀ l a w, ¬ Q (.goto l) a w) : (Code.scope c).wpIn F n P Q a w := by
 intro b k cs hro hb hr
 have h0 : (lone (b.atR a (.code (.scope c) :: k)) cs w).fenced P F := fenced_calm hb hr rfl
 obtain ⟨e, a₁, w₁, hq, harr⟩ := h b (.inScope c :: k) cs hro hb hr
 cases e with
 | normal => exact ⟨.normal, a₁, w₁, hq, .head h0 stepR_scope (StepsIn.trans harr (.one (fenced_calm hb hr rfl) stepR_inScope))⟩
 | exit id =>
  have hx : exitTo id (.inScope c :: k) = exitTo id k := by simp [exitTo]
  exact ⟨.exit id, a₁, w₁, hq, fun k' hk => .head h0 stepR_scope (harr.1 k' (by rw [hx]; exact hk)),
   fun hr' hk => let ⟨k₁, h1, h2⟩ := harr.2 hr' (by rw [hx]; exact hk); ⟨k₁, h1, .head h0 stepR_scope h2⟩⟩
 | goto l => exact (hg _ _ _ hq).elim
 | ret => exact ⟨_, a₁, w₁, hq, .of_steps (.one h0 stepR_scope) harr⟩
 | panic ch => exact ⟨_, a₁, w₁, hq, .of_steps (.one h0 stepR_scope) harr⟩
 | outgrown => exact ⟨_, a₁, w₁, hq, .of_steps (.one h0 stepR_scope) harr⟩
theorem WC_ok {N : Nat} {P : Program} (hdraw : ∀ (E : Env), E.Ok → E.P = P → ∀ (id : Nat) (ops : Array Oper) (hs : List Bool) (m : Nat) (Q : AQ) (ts : TS) (S : St) (c0 c : Cx) (ds : List Deferred) (a : Act) (w : World), dstsOk E.N ops = true → drawOk ops hs m = true → QPre E ops (WOps E ops Q (ops.toList.drop m)) m ops.toList hs S ts S → Sim E c0 c ds ts S a w → (Code.region id ops true).wpIn E.F 0 E.P (lft E c0 ds Q) a w) :
  ∀ {x : Code} {y : MC} (hf : Fits N x y) (E : Env) (hE : E.Ok) (hP : E.P = P) (hN : E.N = N) (c0 : Cx) (ds : List Deferred) (Q : AQ) (ts : TS) (S : St) (c : Cx) (a : Act) (w : World), WC E y Q ts S → Sim E c0 c ds ts S a w → x.wpIn E.F 0 E.P (lft E c0 ds Q) a w := by
 intro x y hf
 induction hf with
 | skip => intro E hE hP hN c0 ds Q ts S c a w h hs; exact wpIn_skip ⟨.normal, ts, S, c, trivial, h, hs⟩
 | label l => intro E hE hP hN c0 ds Q ts S c a w h hs; exact wpIn_label ⟨.normal, ts, S, c, trivial, h, hs⟩
 | seq a b x y _ _ ihx ihy =>
  intro E hE hP hN c0 ds Q ts S c a w h hs
  refine wpIn_seq (wpIn_mono (ihx E hE hP hN c0 ds _ ts S c a w h hs) fun e a' w' hq => ?_)
  obtain ⟨ae, ts', S', c', h1, h2, h3⟩ := hq
  cases ae with
  | normal => cases e <;> first | exact ihy E hE hP hN c0 ds Q ts' S' c' a' w' h2 h3 | exact h1.elim
  | exit i => cases e <;> first | exact ⟨_, ts', S', c', h1, h2, h3⟩ | exact h1.elim
  | ret => cases e <;> first | exact ⟨_, ts', S', c', h1, h2, h3⟩ | exact h1.elim
  | panic v => cases e <;> first | exact ⟨_, ts', S', c', h1, h2, h3⟩ | exact h1.elim
 | cond cc a b x y _ _ ihx ihy =>
  intro E hE hP hN c0 ds Q ts S c a w h hs
  simp only [WC] at h
  split at h
  ·rename_i b hb
   have hc := aeval_ok hs.ts hb
   generalize hq : a.eval cc = q at hc
   cases hc
   refine wpIn_cond hq ?_
   cases b
   ·exact ihy E hE hP hN c0 ds Q ts S c a w (by simpa using h) hs
   ·exact ihx E hE hP hN c0 ds Q ts S c a w (by simpa using h) hs
  ·exact h.elim
 | block id a x _ ih =>
  intro E hE hP hN c0 ds Q ts S c a w h hs
  refine wpIn_block (wpIn_mono (ih E hE hP hN c0 ds _ ts S c a w h hs) fun e a' w' hq => ?_)
  obtain ⟨ae, ts', S', c', h1, h2, h3⟩ := hq
  cases ae with
  | normal => cases e <;> first | exact ⟨_, ts', S', c', h1, h2, h3⟩ | exact h1.elim
  | exit i =>
   cases e <;> first | exact h1.elim | skip
   rename_i j
   simp only [XRel] at h1
   subst h1
   simp only [Exit.inBlock]
   simp only [blockQ] at h2
   split
   ·rename_i e; rw [if_pos e] at h2; exact ⟨.normal, ts', S', c', trivial, h2, h3⟩
   ·rename_i e; rw [if_neg e] at h2; exact ⟨.exit i, ts', S', c', rfl, h2, h3⟩
  | ret => cases e <;> first | exact ⟨_, ts', S', c', h1, h2, h3⟩ | exact h1.elim
  | panic v => cases e <;> first | exact ⟨_, ts', S', c', h1, h2, h3⟩ | exact h1.elim
 | loop a x _ ih =>
  intro E hE hP hN c0 ds Q ts S c a w h hs
  obtain ⟨I, ⟨n, h0⟩, hr⟩ := h
  refine wpIn_loop_idx (fun n a w => ∃ ts S c, I n ts S ∧ Sim E c0 c ds ts S a w) (n := n) ⟨ts, S, c, h0, hs⟩ ?_
  intro n a w ⟨ts, S, c, hI, hs⟩
  refine wpIn_mono (ih E hE hP hN c0 ds _ ts S c a w (hr n ts S hI) hs) fun e a' w' hq => ?_
  obtain ⟨ae, ts', S', c', h1, h2, h3⟩ := hq
  cases ae with
  | normal =>
   cases e <;> first | exact h1.elim | skip
   obtain ⟨m, hm, h2 | ⟨ts2, S2, hb, ht, hg, hsub, hI2⟩⟩ := h2
   ·exact ⟨m, hm, _, _, _, h2, h3⟩
   ·exact ⟨m, hm, ts2, S2, _, hI2, h3.gc hb ht hg hsub⟩
  | exit i => cases e <;> first | exact ⟨_, ts', S', c', h1, h2, h3⟩ | exact h1.elim
  | ret => cases e <;> first | exact ⟨_, ts', S', c', h1, h2, h3⟩ | exact h1.elim
  | panic v => cases e <;> first | exact ⟨_, ts', S', c', h1, h2, h3⟩ | exact h1.elim
 | exit id => intro E hE hP hN c0 ds Q ts S c a w h hs; exact wpIn_exit ⟨.exit id, ts, S, c, rfl, h, hs⟩
 | ret => intro E hE hP hN c0 ds Q ts S c a w h hs; exact wpIn_ret ⟨.ret, ts, S, c, trivial, h, hs⟩
 | region id ops ks l hfo =>
  intro E hE hP hN c0 ds Q ts S c a w h hs
  subst hN
  refine wpIn_mono (wpIn_region ?_) (lft_keep ks)
  exact wops_ok hE (dstsOk_get (by have := hfo.dsts; exact this)) ops.toList (List.range ops.size) ts S c a w (range_ops ops) (opsM_ok _ _ _ _ hfo h) hs
 | draw id ops ks m fs l hd hfo =>
  intro E hE hP hN c0 ds Q ts S c a w h hs
  subst hN
  refine wpIn_mono (hdraw E hE hP id ops fs m _ ts S c0 c ds a w (by have := hfo.dsts; exact this) hd (preM_ok (fun ts S hk => opsM_ok _ _ ts S (hfo.drop m) hk) _ _ _ _ _ _ _ hfo h) hs) (lft_keep ks)
 | scope a x _ ih => intro E hE hP hN c0 ds Q ts S c ac w h hs; exact wpIn_scope (ih E hE hP hN c0 ds Q ts S c ac w h hs) fun l a w ⟨ae, ts', S', c', h1, _⟩ => by cases ae <;> exact h1.elim
 | rangeFunc g ps a b x y hp _ _ ihx ihy => intro E hE hP hN c0 ds Q ts S c ac w h hs; exact rf_ok hE hP hN ihx ihy hp h hs
def toMOs (N : Nat) (ops : Array Oper) : List Oper → Option (List MO)
 | [] => some []
 | o :: l => if dstOk N o.dst then
   match shortG ops o, toMOs N ops l with
   | some g, some l' => some (⟨g, o.dst, o.op⟩ :: l')
   | _, _ => none
  else none
def toMC (N : Nat) (ks : Nat → List Nat) (dm : Nat → Nat × List Bool) : Code → Option MC
 | .skip => some .skip
 | .label _ => some .skip
 | .seq a b => match toMC N ks dm a, toMC N ks dm b with
  | some x, some y => some (.seq x y)
  | _, _ => none
 | .cond c a b => match toMC N ks dm a, toMC N ks dm b with
  | some x, some y => some (.cond c x y)
  | _, _ => none
 | .block id a => (toMC N ks dm a).map (.block id)
 | .loop a => (toMC N ks dm a).map .loop
 | .exit id => some (.exit id)
 | .ret => some .ret
 | .region id ops false => (toMOs N ops ops.toList).map (.region (ks id))
 | .region id ops true => if drawOk ops (dm id).2 (dm id).1 then (toMOs N ops ops.toList).map (.draw (ks id) (dm id).1 (dm id).2) else none
 | .scope a => toMC N ks dm a
 | .rangeFunc g ps a b => if ps.toList.all (fun p => decide (p < N)) then
   match toMC N ks dm a, toMC N ks dm b with
   | some x, some y => some (.rangeFunc g ps.toList x y)
   | _, _ => none
  else none
 | _ => none
theorem toMOs_ok {N : Nat} {ops : Array Oper} : ∀ (l : List Oper) (l' : List MO), toMOs N ops l = some l' → FitsO N ops l l'
 | [], l', e => by simp only [toMOs, Option.some.injEq] at e; subst e; exact .nil
 | o :: l, l', e => by
  simp only [toMOs] at e
  split at e
  ·rename_i hd
   split at e
   ·rename_i g l2 h1 h2
    simp only [Option.some.injEq] at e; subst e
    exact .cons o _ l l2 hd h1 rfl rfl (toMOs_ok l l2 h2)
   ·cases e
  ·cases e
theorem toMC_ok {N : Nat} {ks : Nat → List Nat} {dm : Nat → Nat × List Bool} : ∀ (x : Code) (y : MC), toMC N ks dm x = some y → Fits N x y := by
 intro x
 induction x with
 | skip => intro y e; simp only [toMC, Option.some.injEq] at e; subst e; exact .skip
 | label l => intro y e; simp only [toMC, Option.some.injEq] at e; subst e; exact .label l
 | seq a b iha ihb =>
  intro y e
  simp only [toMC] at e
  split at e
  ·rename_i x1 y1 h1 h2; simp only [Option.some.injEq] at e; subst e; exact .seq a b _ _ (iha _ h1) (ihb _ h2)
  ·cases e
 | cond c a b iha ihb =>
  intro y e
  simp only [toMC] at e
  split at e
  ·rename_i x1 y1 h1 h2; simp only [Option.some.injEq] at e; subst e; exact .cond c a b _ _ (iha _ h1) (ihb _ h2)
  ·cases e
 | block id a ih =>
  intro y e
  simp only [toMC, Option.map_eq_some_iff] at e
  obtain ⟨x1, h1, rfl⟩ := e
  exact .block id a _ (ih _ h1)
 | loop a ih =>
  intro y e
  simp only [toMC, Option.map_eq_some_iff] at e
  obtain ⟨x1, h1, rfl⟩ := e
  exact .loop a _ (ih _ h1)
 | exit id => intro y e; simp only [toMC, Option.some.injEq] at e; subst e; exact .exit id
 | ret => intro y e; simp only [toMC, Option.some.injEq] at e; subst e; exact .ret
 | region id ops draw =>
  intro y e
  cases draw with
  | false =>
   simp only [toMC, Option.map_eq_some_iff] at e
   obtain ⟨l, h1, rfl⟩ := e
   exact .region id ops _ l (toMOs_ok _ _ h1)
  | true =>
   simp only [toMC] at e
   split at e
   ·rename_i hd
    simp only [Option.map_eq_some_iff] at e
    obtain ⟨l, h1, rfl⟩ := e
    exact .draw id ops _ _ _ l hd (toMOs_ok _ _ h1)
   ·cases e
 | rangeFunc g ps a b iha ihb =>
  intro y e
  simp only [toMC] at e
  split at e
  ·rename_i hp
   split at e
   ·rename_i x1 y1 h1 h2; simp only [Option.some.injEq] at e; subst e; exact .rangeFunc g ps a b _ _ hp (iha _ h1) (ihb _ h2)
   ·cases e
  ·cases e
 | scope a ih => intro y e; simp only [toMC] at e; exact .scope a y (ih y e)
 | goto => intro y e; simp only [toMC] at e; cases e
 | refuse => intro y e; simp only [toMC] at e; cases e
end Go.Av
end
section
namespace Go.Av
open Go
def resA (T : Tab) (S : St) (ts : TS) : List ResultVar → Option (List AV)
 | [] => some []
 | .tmp t :: l => match ts.get t, resA T S ts l with
  | some v, some vs => some (v :: vs)
  | _, _ => none
 | .cell a t :: l => match (ts.get a).bind (loadA T S t), resA T S ts l with
  | some v, some vs => some (v :: vs)
  | _, _ => none
def tupA : List AV → AV
 | [v] => v
 | vs => .tuple vs
def resF (tmps : Array Value) (r : ResultVar) : Sem Value :=
 match r with
 | .tmp t => pure (tmps.getD t Go.undef)
 | .cell a t => do loadVar t (← asAddr (tmps.getD a Go.undef))
theorem resA_ok {P : Program} {T : Tab} (hT : T.Ok P) {c : Cx} {S : St} {w : World} (h : StRel c S w) {ts : TS} {tmps : Array Value} (ht : TsRel c ts tmps) : ∀ (l : List ResultVar) (vs : List AV), resA T S ts l = some vs →
  ∃ us, (l.mapM (resF tmps) : Sem (List Value)).run P w = .ok us w ∧ LRel c vs us
 | [], vs, e => by simp only [resA, Option.some.injEq] at e; subst e; exact ⟨[], rfl, LRel.nil c⟩
 | .tmp t :: l, vs, e => by
  simp only [resA] at e
  split at e
  ·rename_i v vs' h1 h2
   simp only [Option.some.injEq] at e; subst e
   obtain ⟨us, h3, h4⟩ := resA_ok hT h ht l vs' h2
   exact ⟨tmps.getD t Go.undef :: us, by simp only [List.mapM_cons, resF, Sem.run_bind, Sem.run_pure, Result.andThen_ok, h3], LRel.cons (ht t v h1) h4⟩
  ·cases e
 | .cell a t :: l, vs, e => by
  simp only [resA] at e
  split at e
  ·rename_i v vs' h1 h2
   simp only [Option.some.injEq] at e; subst e
   obtain ⟨us, h3, h4⟩ := resA_ok hT h ht l vs' h2
   simp only [Option.bind_eq_some_iff] at h1
   obtain ⟨p, hp, hl⟩ := h1
   have hx := ht a p hp
   obtain ⟨u, h5, h6⟩ := loadA_ok (P := P) hT h hx hl
   refine ⟨u :: us, ?_, LRel.cons h6 h4⟩
   have : (resF tmps (.cell a t)).run P w = .ok u w := by
    simp only [resF]
    generalize hq : tmps.getD a Go.undef = q at hx h5
    unfold loadA at hl
    split at hl
    ·cases hx
     simpa [Instr.loadAt, Instr.sureAddr, asAddr] using h5
    ·cases hx
     simpa [Instr.loadAt, Instr.sureAddr, asAddr] using h5
    ·cases hl
   simp only [List.mapM_cons, Sem.run_bind, this, Sem.run_pure, Result.andThen_ok, h3]
  ·cases e
def bodyQ (E : Env) (rs : List ResultVar) (R : AEnd → St → Prop) : AQ
 | .normal, ts, S => match resA E.T S ts rs with
  | some vs => R (.ret (tupA vs)) S
  | none => False
 | .ret, ts, S => match resA E.T S ts rs with
  | some vs => R (.ret (tupA vs)) S
  | none => False
 | .panic v, _, S => R (.panic v) S
 | .exit _, _, _ => False
def argTS : Nat → List AV → TS
 | _, [] => []
 | n, v :: l => (n, v) :: argTS (n + 1) l
theorem argTS_get : ∀ (l : List AV) (n d : Nat) (v : AV), (argTS n l).get d = some v → n ≤ d ∧ l[d - n]? = some v
 | [], n, d, v, h => by simp [argTS, TS.get] at h
 | x :: l, n, d, v, h => by
  simp only [argTS, TS.get] at h
  split at h
  ·rename_i e; subst e
   simp only [Option.some.injEq] at h; subst h
   exact ⟨Nat.le_refl _, by simp⟩
  ·rename_i e
   obtain ⟨h1, h2⟩ := argTS_get l (n + 1) d v h
   exact ⟨by omega, by rw [show d - n = (d - (n + 1)) + 1 by omega, List.getElem?_cons_succ]; exact h2⟩
theorem results_ok {P : Program} {T : Tab} (hT : T.Ok P) {c : Cx} {S : St} {w : World} (h : StRel c S w) {ts : TS} {tmps : Array Value} (ht : TsRel c ts tmps) (fn : Func) {vs : List AV} (e : resA T S ts fn.results.toList = some vs) :
  ∃ x, (results fn tmps).run P w = .ok x w ∧ VRel c (tupA vs) x := by
 obtain ⟨us, h1, h2⟩ := resA_ok (P := P) hT h ht _ _ e
 refine ⟨if hh : us.toArray.size = 1 then us.toArray[0] else .tuple us.toArray, ?_, ?_⟩
 ·have hr : results fn tmps = (do let vs ← fn.results.mapM (resF tmps); pure (if hh : vs.size = 1 then vs[0] else .tuple vs)) := rfl
  rw [hr, ← Array.toArray_toList (xs := fn.results), List.mapM_toArray]
  simp only [Sem.run_bind, Sem.run_map, h1, Result.andThen_ok, Sem.run_pure]
 ·match vs, us, h2 with
  | [], us, h2 =>
   have : us = [] := by have := h2.1; cases us <;> simp_all
   subst this
   simp only [tupA]; exact VRel.mk_tuple (LRel.nil c)
  | [v], us, h2 =>
   obtain ⟨u, us', rfl, h3, h4⟩ := h2.tail
   have : us' = [] := by have := h4.1; cases us' <;> simp_all
   subst this
   simpa [tupA] using h3
  | v :: v' :: vs, us, h2 =>
   have hlen := h2.1
   simp only [List.length_cons] at hlen
   have : ¬ us.toArray.size = 1 := by simp; omega
   rw [dif_neg this]
   exact VRel.mk_tuple (by simpa using h2)
theorem AC.of_bodyC {E : Env} (hE : E.Ok) {f : FuncId} {fn : Func} {code : Code} {mc : MC} (hf : E.P.funcs[f]? = some fn) (hb : fn.body = some code) (hfit : Fits E.N code mc) (hN : fn.ntmps = E.N) {args : List AV} {S : St} {R : AEnd → St → Prop}
  (hbase : E.base = S.heap.length) (hbt : E.bt = S.nt) (hargs : args.length ≤ E.N) (hdraw : ∀ (E' : Env), E'.Ok → E'.P = E.P → ∀ (id : Nat) (ops : Array Oper) (hs : List Bool) (m : Nat) (Q : AQ) (ts : TS) (S : St) (c0 c : Cx) (ds : List Deferred) (a : Act) (w : World), dstsOk E'.N ops = true → drawOk ops hs m = true → QPre E' ops (WOps E' ops Q (ops.toList.drop m)) m ops.toList hs S ts S → Sim E' c0 c ds ts S a w → (Code.region id ops true).wpIn E'.F 0 E'.P (lft E' c0 ds Q) a w)
  (h : WC E mc (bodyQ E fn.results.toList R) (argTS 0 args) S) (hR : E.R = none) : ∀ c w vs, E.C c → StRel c S w → LRel c args vs → Calls E.P f vs.toArray w fun e w' => ∃ ae S' c', c.le c' ∧ R ae S' ∧ EndRel c' ae e ∧ StRel c' S' w' := by
 intro c w vs hC hs hl
 have hlen : vs.length = args.length := hl.1.symm
 have hsim : Sim E c c [] (argTS 0 args) S { tmps := vs.toArray ++ Array.replicate (fn.ntmps - vs.toArray.size) Go.undef, defers := [] } w := by
  refine ⟨(Cx.le.refl c).S, hC, ⟨fun i n e => by rw [hbase]; exact (hs.dom i n e).1, fun k x e => by rw [hbt]; exact (hs.tdom k x e).1⟩, hs, fun d v e => ?_, Marks.nil _ c c [], ?_⟩
  ·obtain ⟨_, h2⟩ := argTS_get _ _ _ _ e
   rw [Nat.sub_zero] at h2
   obtain ⟨u, hu, hr⟩ := hl.get h2
   have hd : d < vs.length := by
    rcases Nat.lt_or_ge d vs.length with h' | h'
    ·exact h'
    ·rw [List.getElem?_eq_none h'] at hu; cases hu
   rw [Array.getD_eq_getD_getElem?, Array.getElem?_append_left (by simpa using hd)]
   simp only [List.getElem?_toArray, hu, Option.getD_some]
   exact hr
  ·simp; omega
 have hw := WC_ok hdraw hfit E hE rfl rfl c [] _ _ S c _ w h hsim
 rw [Env.F_wide hR] at hw
 refine (callsIn_wide (n := 0)).1 (callsIn_of_wp_marks hf hb trivial (wpIn_mono hw fun e a' w' hq => ?_))
 obtain ⟨ae, ts', S', c', h1, h2, h3⟩ := hq
 have hcl : c.le (c'.withXO c.XO) := h3.le.back
 have fin : ∀ (ms : List Nat) (w1 : World) (f : Nat → Option Obj), ms.Nodup → (∀ D ∈ ms, f D = some (.deferred (some [])) ∧ c.XO D = none) → (∀ b ob, c.XO b = some ob → f b = some ob) → StRel (c'.withXO f) S' w1 → (∀ b, f b = none ∨ c'.XO b = f b) →
   ∀ (u : FrameMode) (Rr : Ending → World → Prop), u ≠ .run → (∀ w2, StRel (c'.withXO c.XO) S' w2 → LeavesInM Fence.wide 0 E.P fn a'.tmps Rr [] u w2) → LeavesInM Fence.wide 0 E.P fn a'.tmps Rr (ms.map markD) u w1 := by
  intro ms
  induction ms with
  | nil =>
   intro w1 f hnd hm hsub hst hff u Rr hu hend
   refine hend w1 ?_
   have : (c'.withXO c.XO) = (c'.withXO f).withXO c.XO := rfl
   rw [this]
   refine hst.withXO _ (fun b ob e => hst.XO b ob (hsub b ob e)) fun i n B e1 e2 _ e3 => ?_
   cases hx : c.XO n with
   | none => rfl
   | some ob => have := hsub n ob hx; have e3 : f n = none := e3; rw [e3] at this; cases this
  | cons D ms ih =>
   intro w1 f hnd hm hsub hst hff u Rr hu hend
   have hD := hm D List.mem_cons_self
   have hDw := (hst.XO D _ hD.1).1
   refine ⟨hu, .inl ⟨D, _, rfl, run_takeDeferred hDw, ?_⟩⟩
   refine ih (w1.putObj D (.deferred none)) (fun k => if k = D then none else f k) (List.nodup_cons.1 hnd).2 (fun D' hD' => ?_) (fun b ob e => ?_) ?_ (fun b => ?_) u Rr hu hend
   ·have hne : D' ≠ D := fun e => (List.nodup_cons.1 hnd).1 (e ▸ hD')
    simp only [if_neg hne]
    exact hm D' (List.mem_cons_of_mem _ hD')
   ·have hne : b ≠ D := fun e' => by rw [e', hD.2] at e; cases e
    simp only [if_neg hne]
    exact hsub b ob e
   ·exact hst.dropHidden hD.1 (by intro cs t g e; cases e)
   ·by_cases e : b = D
    ·left; simp [e]
    ·simp only [if_neg e]; exact hff b
 have ret : ∀ vs', resA E.T S' ts' fn.results.toList = some vs' → R (.ret (tupA vs')) S' → LeavesInM Fence.wide 0 E.P fn a'.tmps (fun e w' => ∃ ae S' c', c.le c' ∧ R ae S' ∧ EndRel c' ae e ∧ StRel c' S' w') a'.defers .returning w' := by
  intro vs' hv hR'
  obtain ⟨ms, e1, e2, e3, _⟩ := h3.ds
  rw [e1, List.append_nil]
  refine fin ms w' c'.XO e2 e3 h3.le.XO h3.st (fun b => .inr rfl) _ _ (by simp) fun w2 hst2 => ?_
  obtain ⟨x, hx1, hx2⟩ := results_ok (P := E.P) hE.T hst2 (fun d u hu => (h3.ts d u hu).withXO _) fn hv
  exact ⟨x, hx1, .ret (tupA vs'), S', _, hcl, hR', hx2, hst2⟩
 cases ae with
 | normal =>
  cases e <;> first | exact h1.elim | skip
  simp only [bodyQ] at h2
  split at h2
  ·rename_i vs' hv; exact ret vs' hv h2
  ·exact h2.elim
 | ret =>
  cases e <;> first | exact h1.elim | skip
  simp only [bodyQ] at h2
  split at h2
  ·rename_i vs' hv; exact ret vs' hv h2
  ·exact h2.elim
 | exit i => exact h2.elim
 | panic v =>
  cases e <;> first | exact h1.elim | skip
  rename_i ch
  obtain ⟨ms, e1, e2, e3, _⟩ := h3.ds
  obtain ⟨x, hx1, hx2⟩ := h1
  show LeavesInM _ _ _ _ _ _ a'.defers (.panicking ch) w'
  rw [e1, List.append_nil]
  exact fin ms w' c'.XO e2 e3 h3.le.XO h3.st (fun b => .inr rfl) _ _ (by simp) fun w2 hst2 => ⟨.panic v, S', _, hcl, h2, ⟨x, hx1, hx2.withXO _⟩, hst2⟩
theorem AC.of_body {E : Env} (hE : E.Ok) {f : FuncId} {fn : Func} {code : Code} {mc : MC} (hf : E.P.funcs[f]? = some fn) (hb : fn.body = some code) (hfit : Fits E.N code mc) (hN : fn.ntmps = E.N) {args : List AV} {S : St} {R : AEnd → St → Prop}
  (hbase : E.base = S.heap.length) (hbt : E.bt = S.nt) (hargs : args.length ≤ E.N) (hdraw : ∀ (E' : Env), E'.Ok → E'.P = E.P → ∀ (id : Nat) (ops : Array Oper) (hs : List Bool) (m : Nat) (Q : AQ) (ts : TS) (S : St) (c0 c : Cx) (ds : List Deferred) (a : Act) (w : World), dstsOk E'.N ops = true → drawOk ops hs m = true → QPre E' ops (WOps E' ops Q (ops.toList.drop m)) m ops.toList hs S ts S → Sim E' c0 c ds ts S a w → (Code.region id ops true).wpIn E'.F 0 E'.P (lft E' c0 ds Q) a w)
  (h : WC E mc (bodyQ E fn.results.toList R) (argTS 0 args) S) (hR : E.R = none) (hC : ∀ c, E.C c) : AC E.P f args S R :=
 fun c w vs hs hl => AC.of_bodyC hE hf hb hfit hN hbase hbt hargs hdraw h hR c w vs (hC c) hs hl
theorem hide {c : Cx} {S : St} {w : World} (h : StRel c S w) : ∃ cE : Cx, StRel cE St.empty w ∧ cE.K = c.K ∧ (∀ i, cE.μ i = none) ∧ (∀ k, cE.τ k = none) ∧ cE.sz = w.heap.size ∧
  (∀ b o v, c.X b o = some v → cE.X b o = some v) ∧ (∀ b ob, c.XO b = some ob → cE.XO b = some ob) ∧
  (∀ i B n, S.heap[i]? = some (some B) → c.μ i = some n → (∀ o, B.has o → ∃ v, cE.X n o = some v) ∧ (B.isObj → ∃ ob, cE.XO n = some ob)) ∧
  (∀ k b lo hi, k ∈ S.toks → c.τ k = some (b, lo, hi) → ∀ o, lo ≤ o → o < hi → ∃ v, cE.X b o = some v) ∧ cE.FZ = c.FZ := by
 classical
 let mine : Nat → Nat → Prop := fun b o => (∃ i B, S.heap[i]? = some (some B) ∧ c.μ i = some b ∧ B.has o) ∨ (∃ k lo hi, k ∈ S.toks ∧ c.τ k = some (b, lo, hi) ∧ lo ≤ o ∧ o < hi)
 let mineO : Nat → Prop := fun b => ∃ i B, S.heap[i]? = some (some B) ∧ c.μ i = some b ∧ B.isObj
 have cellOf : ∀ b o, mine b o → c.K b o = none ∧ c.X b o = none ∧ w.frozen? ⟨b, o, none⟩ = false ∧ ∃ v, w.cell? ⟨b, o, none⟩ = some v := by
  rintro b o (⟨i, B, h1, h2, h3⟩ | ⟨k, lo, hi, h1, h2, h3, h4⟩)
  ·obtain ⟨n, h4, h5⟩ := h.blk i B h1
   rw [h2] at h4; cases h4
   cases B with
   | cells l =>
    obtain ⟨a1, a2, a3, v, a4, _⟩ := h5 o l[o] (List.getElem?_eq_getElem h3)
    exact ⟨a1, a2, a3, v, a4⟩
   | map es => exact h3.elim
   | siter s p => exact h3.elim
  ·obtain ⟨b', lo', hi', h5, h6⟩ := h.tok k h1
   rw [h2] at h5; cases h5
   exact h6 o h3 h4
 have objOf : ∀ b, mineO b → ∃ ob, w.heap[b]? = some ob ∧ ∀ cs t f, ob ≠ .cells cs t f := by
  rintro b ⟨i, B, h1, h2, h3⟩
  obtain ⟨n, h4, h5⟩ := h.blk i B h1
  rw [h2] at h4; cases h4
  cases B with
  | cells l => exact h3.elim
  | map es => obtain ⟨_, en, cl, h6, _⟩ := h5; exact ⟨_, h6, fun _ _ _ e => by cases e⟩
  | siter s p => exact ⟨_, h5.2, fun _ _ _ e => by cases e⟩
 refine ⟨{ K := c.K, μ := fun _ => none, τ := fun _ => none, X := fun b o => if mine b o then w.cell? ⟨b, o, none⟩ else c.X b o, XO := fun b => if mineO b then w.heap[b]? else c.XO b, sz := w.heap.size, FZ := c.FZ }, ?_, rfl, fun _ => rfl, fun _ => rfl, rfl, ?_, ?_, ?_, ?_, rfl⟩
 ·exact {
   sz := Nat.le_refl _
   tab := h.tab
   tsh := h.tsh
   fr := h.fr
   K := h.K
   X := fun b o v e => by
    simp only at e
    split at e
    ·rename_i hm
     obtain ⟨a1, a2, a3, _⟩ := cellOf b o hm
     exact ⟨e, a3, a1⟩
    ·exact h.X b o v e
   F := h.F
   XO := fun b ob e => by
    simp only at e
    split at e
    ·rename_i hm
     obtain ⟨ob', h1, h2⟩ := objOf b hm
     rw [e] at h1; cases h1
     exact ⟨e, h2⟩
    ·exact h.XO b ob e
   dom := fun i n e => by cases e
   tdom := fun k x e => by cases e
   blk := fun i B e => by simp [St.empty] at e
   inj := fun i j Bi Bj n e => by simp [St.empty] at e
   tok := fun k e => by simp [St.empty] at e
   tinj := fun k k' b lo hi lo' hi' e => by simp [St.empty] at e
   tblk := fun k i b lo hi B e => by simp [St.empty] at e }
 ·intro b o v e
  simp only
  split
  ·exact (h.X b o v e).1
  ·exact e
 ·intro b ob e
  simp only
  split
  ·exact (h.XO b ob e).1
  ·exact e
 ·intro i B n h1 h2
  refine ⟨fun o ho => ?_, fun ho => ?_⟩
  ·have hm : mine n o := .inl ⟨i, B, h1, h2, ho⟩
   obtain ⟨_, _, _, v, hv⟩ := cellOf n o hm
   exact ⟨v, by simp only; rw [if_pos hm]; exact hv⟩
  ·have hm : mineO n := ⟨i, B, h1, h2, ho⟩
   obtain ⟨ob, hv, _⟩ := objOf n hm
   exact ⟨ob, by simp only; rw [if_pos hm]; exact hv⟩
 ·intro k b lo hi h1 h2 o h3 h4
  have hm : mine b o := .inr ⟨k, lo, hi, h1, h2, h3, h4⟩
  obtain ⟨_, _, _, v, hv⟩ := cellOf b o hm
  exact ⟨v, by simp only; rw [if_pos hm]; exact hv⟩
end Go.Av
end
