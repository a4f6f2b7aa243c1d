/- Part 21 of the proof. -/
import Derived.Test.YtlagjjpbknpdkaaGreatDoorVn8
import Derived.RecoverIn
import Derived.Test.YtlagjjpbknpdkaaGreatDoorVn20
set_option linter.all false
set_option linter.unusedVariables false
set_option linter.unusedSimpArgs false
set_option linter.unusedSectionVars false
open Nat (reduceEqDiff reduceAdd reduceLeDiff)
section
namespace Go.Av
open Go
def modeOf (c : Cx) : Option AV → FrameMode → Prop
 | none, u => u = .returning
 | some v, u => ∃ x, u = .panicking [{ v := x, recovered := false }] ∧ VRel c v x
def DC (P : Program) (g : FuncId) (caps : List AV) (pan : Option AV) (S : St) (R : St → Prop) : Prop :=
 ∀ c w vs u, StRel c S w → LRel c caps vs → modeOf c pan u → CallsDIn Fence.wide 0 P g vs.toArray u w fun e u' w' => (∃ y, e = .returned y) ∧ settle u' = .returning ∧ ∃ S' c', c.le c' ∧ R S' ∧ StRel c' S' w'
theorem DC.run {E : Env} (hE : E.Ok) (hmix : E.P.follows .mixedOrders = true) {g : FuncId} {fn : Func} {id : Nat} {o : Oper} {d : Nat} {code : Code} {ks : Nat → List Nat} {dm : Nat → Nat × List Bool} {mc : MC}
  (hf : E.P.funcs[g]? = some fn) (hb : fn.body = some (.seq (.region id #[o] false) code)) (ho : o.op = .call { callee := .builtin .recover, args := #[], argTypes := #[] }) (hg : o.guard = none) (hd : o.dst = some d)
  (hm : toMC E.N ks dm code = some mc) (hN : fn.ntmps = E.N) (hres : fn.results = #[]) {caps : List AV} {pan : Option AV} {S : St} {R : St → Prop} (hargs : caps.length ≤ E.N) (hdN : d < E.N) (hbase : E.base = S.heap.length) (hbt : E.bt = S.nt)
  (hR : E.R = none) (hC : ∀ c, E.C c) (hK : E.K = false)
  (h : WC E mc (fun e _ S' => match e with | .normal => R S' | .ret => R S' | _ => False) ((argTS 0 caps).set d (pan.getD .nilIface)) S) : DC E.P g caps pan S R := by
 intro c w vs u hst hl hu
 have hlen : vs.length = caps.length := hl.1.symm
 refine callsDIn_of_wpSIn hf hb trivial fun c₀ cs hc₀ => ?_
 refine wpSIn_seq (wpSIn_region ?_)
 have hexec : (execOp ({ tmps := vs.toArray ++ Array.replicate (fn.ntmps - vs.toArray.size) Go.undef, defers := [] } : Act).eval o).run E.P w = .ok .recover w := by
  simp only [execOp, ho]
  simp [resolve, invoke, builtin, go_sem]
 have hrest : ∀ (x : Value) (cs' : List Frame) (u' : FrameMode), cs' = { c₀ with mode := u' } :: cs → settle u' = .returning → VRel c (pan.getD .nilIface) x →
   code.wpSIn Fence.wide 0 E.P (bodyPostS E.P fn c₀ cs fun e u' w' => (∃ y, e = .returned y) ∧ settle u' = .returning ∧ ∃ S' c', c.le c' ∧ R S' ∧ StRel c' S' w')
    (({ tmps := vs.toArray ++ Array.replicate (fn.ntmps - vs.toArray.size) Go.undef, defers := [] } : Act).put o.dst x) cs' w := by
  intro x cs' u' hcs hset hx
  have sim0 : Sim E c c [] (argTS 0 caps) S { tmps := vs.toArray ++ Array.replicate (fn.ntmps - vs.toArray.size) Go.undef, defers := [] } w := by
   refine ⟨(Cx.le.refl c).S, hC c, ⟨fun i n e => by rw [hbase]; exact (hst.dom i n e).1, fun k x e => by rw [hbt]; exact (hst.tdom k x e).1⟩, hst, fun d v e => ?_, Marks.nil _ _ _ _, ?_⟩
   ·obtain ⟨_, h2⟩ := argTS_get _ _ _ _ e
    rw [Nat.sub_zero] at h2
    obtain ⟨u, hu, hr⟩ := hl.get h2
    have hd : d < vs.length := by
     rcases Nat.lt_or_ge d vs.length with h' | h'
     ·exact h'
     ·rw [List.getElem?_eq_none h'] at hu; cases hu
    rw [Array.getD_eq_getD_getElem?, Array.getElem?_append_left (by simpa using hd)]
    simp only [List.getElem?_toArray, hu, Option.getD_some]
    exact hr
   ·simp; omega
  have sim1 := sim0.put (Cx.le.refl c) hst (dst := o.dst) hx (by rw [hd]; simpa [dstOk] using hdN)
  rw [hd] at sim1
  have hw := WC_ok (fun E' hE' hP => draw_ok hE' (hP ▸ hmix)) (toMC_ok _ _ hm) E hE rfl rfl c [] _ _ S c _ w h sim1
  rw [Env.F_wide hR] at hw
  refine wpSIn_of_wpIn rfl ?_
  rw [hd]
  refine wpIn_mono hw fun e a' w' hq => ?_
  obtain ⟨ae, ts', S', c', h1, h2, h3⟩ := hq
  obtain ⟨ms, m1, m2, m3, m4⟩ := h3.ds
  rw [hK] at m4
  rw [m4 rfl] at m1
  have hdef : a'.defers = [] := by simpa using m1
  have hst' : StRel (c'.withXO c.XO) S' w' := by
   refine h3.st.withXO _ (fun b ob e => h3.st.XO b ob (h3.le.XO b ob e)) fun i n B _ _ _ e3 => ?_
   cases hx : c.XO n with
   | none => rfl
   | some ob => rw [h3.le.XO n ob hx] at e3; cases e3
  have hr0 : (results fn a'.tmps).run E.P w' = .ok (.tuple #[]) w' := by
   simp [results, hres]
  have done : R S' → a'.defers = [] ∧ ∃ u'', cs' = { c₀ with mode := u'' } :: cs ∧ ∃ v, (results fn a'.tmps).run E.P w' = .ok v w' ∧ ((∃ y, Ending.returned v = .returned y) ∧ settle u'' = .returning ∧ ∃ S' c', c.le c' ∧ R S' ∧ StRel c' S' w') :=
   fun hRS => ⟨hdef, u', hcs, .tuple #[], hr0, ⟨_, rfl⟩, hset, S', _, h3.le.back, hRS, hst'⟩
  cases ae with
  | normal =>
   cases e <;> first | exact h1.elim | skip
   exact done h2
  | ret =>
   cases e <;> first | exact h1.elim | skip
   exact done h2
  | exit i => exact h2.elim
  | panic v => exact h2.elim
 show wpOpsSIn Fence.wide 0 E.P #[o] _ [0] _ _ _
 simp only [wpOpsSIn, List.getElem?_toArray]
 refine ⟨fun _ _ => trivial, ?_⟩
 have hwanted : Region.wanted o (yielded #[o] (vs.toArray ++ Array.replicate (fn.ntmps - vs.toArray.size) Go.undef)) = true := by
  unfold Region.wanted; rw [hg]
 rw [if_pos hwanted, hexec]
 simp only
 cases pan with
 | none =>
  have hu : u = .returning := hu
  have : recoverD (c₀ :: cs) = none := by
   simp only [recoverD, hc₀, hu]
  rw [this]
  exact hrest .nilIface _ .returning (by rw [← hu, ← hc₀]) rfl .nilIface
 | some v =>
  obtain ⟨x, hu, hx⟩ := hu
  have : recoverD (c₀ :: cs) = some (x, { c₀ with mode := .panicking [{ v := x, recovered := true }] } :: cs) := by
   simp only [recoverD, hc₀, hu]
  rw [this]
  exact hrest x _ (.panicking [{ v := x, recovered := true }]) rfl rfl hx
def Env.from (E : Env) (S : St) : Env := { E with base := S.heap.length, bt := S.nt }
theorem Env.Ok.from {E : Env} (h : E.Ok) (S : St) : (E.from S).Ok := ⟨h.T, h.M, h.Cle, h.Y⟩
def endQ (E : Env) (rs : List ResultVar) (g : FuncId) (caps : List AV) (R : AEnd → St → Prop) : AQ
 | .normal, ts, S' => DC E.P g caps none S' fun S2 => ∃ vs, resA E.T S2 ts rs = some vs ∧ R (.ret (tupA vs)) S2
 | .ret, ts, S' => DC E.P g caps none S' fun S2 => ∃ vs, resA E.T S2 ts rs = some vs ∧ R (.ret (tupA vs)) S2
 | .panic v, ts, S' => DC E.P g caps (some v) S' fun S2 => ∃ vs, resA E.T S2 ts rs = some vs ∧ R (.ret (tupA vs)) S2
 | .exit _, _, _ => False
theorem AC.deferring {E : Env} (hE : E.Ok) (hmix : E.P.follows .mixedOrders = true) {f : FuncId} {fn : Func} {a x : Code} {id : Nat} {o1 o2 : Oper} {t : Nat} {tys : Array TypeId} {ks : Nat → List Nat} {dm : Nat → Nat × List Bool} {ma mx : MC}
  (hf : E.P.funcs[f]? = some fn) (hb : fn.body = some (.seq a (.seq (.region id #[o1, o2] false) x))) (ho2 : o2.op = .defer { callee := .value (.tmp t), args := #[], argTypes := tys }) (hg1 : o1.guard = none) (hg2 : o2.guard = none) (hd1 : o1.dst = some t) (hd2 : o2.dst = none)
  (hma : toMC E.N ks dm a = some ma) (hmx : toMC E.N ks dm x = some mx) (hN : fn.ntmps = E.N) (ht : t < E.N) {args : List AV} {S : St} {R : AEnd → St → Prop} (hbase : E.base = S.heap.length) (hbt : E.bt = S.nt) (hargs : args.length ≤ E.N)
  (hR : E.R = none) (hC : ∀ c, E.C c) (hK : E.K = false)
  (h : WC E ma (onlyN fun ts1 S1 => ∃ g caps, astepO E.T S1 ts1 o1.op = some (.pure (.func (.func g) [] caps)) ∧ Callable E.P g ∧ WC (E.from S1) mx (endQ E fn.results.toList g caps R) (ts1.set t (.func (.func g) [] caps)) S1) (argTS 0 args) S) : AC E.P f args S R := by
 intro c w vs hs hl
 have hlen : vs.length = args.length := hl.1.symm
 refine (callsIn_wide (n := 0)).1 (callsIn_of_wp_marks hf hb trivial ?_)
 have hsim : Sim E c c [] (argTS 0 args) S { tmps := vs.toArray ++ Array.replicate (fn.ntmps - vs.toArray.size) Go.undef, defers := [] } w := by
  refine ⟨(Cx.le.refl c).S, hC c, ⟨fun i n e => by rw [hbase]; exact (hs.dom i n e).1, fun k x e => by rw [hbt]; exact (hs.tdom k x e).1⟩, hs, fun d v e => ?_, Marks.nil _ _ _ _, ?_⟩
  ·obtain ⟨_, h2⟩ := argTS_get _ _ _ _ e
   rw [Nat.sub_zero] at h2
   obtain ⟨u, hu, hr⟩ := hl.get h2
   have hd : d < vs.length := by
    rcases Nat.lt_or_ge d vs.length with h' | h'
    ·exact h'
    ·rw [List.getElem?_eq_none h'] at hu; cases hu
   rw [Array.getD_eq_getD_getElem?, Array.getElem?_append_left (by simpa using hd)]
   simp only [List.getElem?_toArray, hu, Option.getD_some]
   exact hr
  ·simp; omega
 have nodef : ∀ {c c' : Cx} {ds l : List Deferred}, Marks E.K c c' ds l → l = ds := fun ⟨ms, m1, _, _, m4⟩ => by rw [m4 hK] at m1; simpa using m1
 have draws : ∀ (E' : Env), E'.Ok → E'.P = E.P → _ := fun E' hE' hP => draw_ok hE' (hP ▸ hmix)
 refine wpIn_seq ?_
 have hw := WC_ok draws (toMC_ok _ _ hma) E hE rfl rfl c [] _ _ S c _ w h hsim
 rw [Env.F_wide hR] at hw
 refine wpIn_mono hw fun e a1 w1 hq => ?_
 obtain ⟨ae, ts1, S1, c1, h1, h2, h3⟩ := hq
 cases ae with
 | exit i => exact h2.elim
 | ret => exact h2.elim
 | panic v => exact h2.elim
 | normal =>
 cases e <;> first | exact h1.elim | skip
 obtain ⟨g, caps, hst, hcall, hx⟩ := h2
 show (Code.seq (.region id #[o1, o2] false) x).wpIn Fence.wide 0 E.P _ a1 w1
 refine wpIn_seq (wpIn_region ?_)
 have hd0 := nodef h3.ds
 show wpOpsIn Fence.wide 0 E.P #[o1, o2] _ [0, 1] a1 w1
 have g1 : (#[o1, o2] : Array Oper)[0]? = some o1 := rfl
 have g2 : (#[o1, o2] : Array Oper)[1]? = some o2 := rfl
 have want1 : ∀ y, Region.wanted o1 y = true := fun y => by unfold Region.wanted; rw [hg1]
 have want2 : ∀ y, Region.wanted o2 y = true := fun y => by unfold Region.wanted; rw [hg2]
 simp only [wpOpsIn, g1, g2, want1, want2, if_true]
 obtain ⟨v1, w2, hy, hp⟩ := astep_ok (P := E.P) hE.T h3.st h3.ts (o := o1) hst trivial
 obtain ⟨c2, k1, k2, k3⟩ := Post.app h3.st hp
 have sim2 := h3.put k1 k2 (dst := o1.dst) (v := .func (.func g) [] caps) k3 (by rw [hd1]; simpa [dstOk] using ht)
 rw [hd1] at sim2
 have nd1 : ∀ c, o1.op ≠ .defer c := fun cl hcl => by rw [hcl] at hst; simp [astepO] at hst
 have hrest : o2.wpIn Fence.wide 0 E.P (a1.put (some t) v1) w2 (fun a3 w3 => Exit.then (x.wpIn Fence.wide 0 E.P (bodyPostM Fence.wide 0 E.P fn fun e w' => ∃ ae S' c', c.le c' ∧ R ae S' ∧ EndRel c' ae e ∧ StRel c' S' w')) (bodyPostM Fence.wide 0 E.P fn fun e w' => ∃ ae S' c', c.le c' ∧ R ae S' ∧ EndRel c' ae e ∧ StRel c' S' w') .normal a3 w3)
   (Exit.then (x.wpIn Fence.wide 0 E.P (bodyPostM Fence.wide 0 E.P fn fun e w' => ∃ ae S' c', c.le c' ∧ R ae S' ∧ EndRel c' ae e ∧ StRel c' S' w')) (bodyPostM Fence.wide 0 E.P fn fun e w' => ∃ ae S' c', c.le c' ∧ R ae S' ∧ EndRel c' ae e ∧ StRel c' S' w')) := by
  have hv : (a1.put (some t) v1).eval (.tmp t) = v1 := by
   have hlt : t < a1.tmps.size := by rw [h3.size]; exact ht
   simp [Act.eval, Act.put, Array.getD_eq_getD_getElem?, hlt]
  cases k3 with
  | func _ _ _ f2 c2v hl1 hl2 hff hcc =>
  have hf2 : f2 = #[] := by apply Array.ext'; simpa using hl1.symm
  subst hf2
  refine ⟨fun _ _ => trivial, ?_⟩
  have hex : (o2.semAt Fence.wide.round (a1.put (some t) (.func (.func g) #[] c2v)).eval).run E.P w2 = .ok (.defer { target := .fn (.func g) c2v, args := #[] }) w2 := by
   show (execOp _ o2).run E.P w2 = _
   simp only [execOp, ho2, resolve, hv, Deferred.ofValue, Sem.run_bind, Sem.run_pure, Result.andThen_ok]
   simp
  rw [hex, Oper.uponIn_defer, hd2]
  show x.wpIn Fence.wide 0 E.P _ _ w2
  have sim3 : Sim (E.from S1) c2 c2 [{ target := .fn (.func g) c2v, args := #[] }] (ts1.set t (.func (.func g) [] caps)) S1 (({ a1.put (some t) (.func (.func g) #[] c2v) with defers := { target := .fn (.func g) c2v, args := #[] } :: (a1.put (some t) (.func (.func g) #[] c2v)).defers } : Act).put none Go.undef) w2 := by
   refine ⟨(Cx.le.refl c2).S, hC _, ⟨fun i n e => (sim2.st.dom i n e).1, fun k x e => (sim2.st.tdom k x e).1⟩, sim2.st, sim2.ts, ?_, sim2.size⟩
   have : (a1.put (some t) (.func (.func g) #[] c2v)).defers = [] := hd0
   show Marks _ _ _ _ (_ :: (a1.put (some t) (.func (.func g) #[] c2v)).defers)
   rw [this]
   exact Marks.nil _ _ _ _
  have hwx := WC_ok draws (toMC_ok _ _ hmx) (E.from S1) (hE.from S1) rfl rfl c2 _ _ _ S1 c2 _ w2 hx sim3
  rw [Env.F_wide (show (E.from S1).R = none from hR)] at hwx
  refine wpIn_mono hwx fun e a4 w4 hq4 => ?_
  obtain ⟨ae, ts4, S4, c4, q1, q2, q3⟩ := hq4
  have hdefs := nodef q3.ds
  have hle4 : c.leS c4 := sim2.le.trans q3.le
  have hback : c.le (c4.withXO c.XO) := hle4.back
  have hst4 : StRel (c4.withXO c.XO) S4 w4 := by
   refine q3.st.withXO _ (fun b ob e => q3.st.XO b ob (hle4.XO b ob e)) fun i n B _ _ _ e3 => ?_
   cases hx : c.XO n with
   | none => rfl
   | some ob => rw [hle4.XO n ob hx] at e3; cases e3
  have htf := q3.ts
  have hcap : LRel (c4.withXO c.XO) caps c2v.toList :=
   ⟨by simpa using hl2, fun j x v h1 h2 => ((hcc j x v h1 (by simpa using h2)).mono3 (c' := c4) ⟨q3.le.K, q3.le.μ, q3.le.τ⟩).withXO c.XO⟩
  have fin : ∀ (pan : Option AV) (u : FrameMode), u ≠ .run → modeOf (c4.withXO c.XO) pan u → DC E.P g caps pan S4 (fun S2 => ∃ vs, resA E.T S2 ts4 fn.results.toList = some vs ∧ R (.ret (tupA vs)) S2) →
    LeavesInM Fence.wide 0 E.P fn a4.tmps (fun e w' => ∃ ae S' c', c.le c' ∧ R ae S' ∧ EndRel c' ae e ∧ StRel c' S' w') a4.defers u w4 := by
   intro pan u hu hm hdc
   rw [hdefs]
   refine ⟨hu, .inr ⟨fun hh => by simp [Fence.wide] at hh, .func g, c2v, g, c2v, rfl, ?_, fun _ _ => trivial, ?_⟩⟩
   ·simp only [invoke]
    rw [show (#[] ++ c2v : Array Value) = c2v by simp]
    exact callFunc_ok hcall _ _
   ·have := hdc (c4.withXO c.XO) w4 c2v.toList u hst4 hcap hm
    rw [show c2v.toList.toArray = c2v by simp] at this
    refine this.mono fun e u' w5 ⟨⟨y, hy⟩, hset, S5, c5, r1, ⟨vs5, r2, r3⟩, r4⟩ => ?_
    subst hy
    show LeavesInM _ _ _ _ _ _ [] (settle u') w5
    rw [hset]
    obtain ⟨z, z1, z2⟩ := results_ok (P := E.P) hE.T r4 (fun d u hu => ((htf d u hu).withXO c.XO).mono r1) fn r2
    exact ⟨z, z1, .ret (tupA vs5), S5, c5, hback.trans r1, r3, z2, r4⟩
  cases ae with
  | exit i => exact q2.elim
  | normal =>
   cases e <;> first | exact q1.elim | skip
   exact fin none .returning (by simp) rfl q2
  | ret =>
   cases e <;> first | exact q1.elim | skip
   exact fin none .returning (by simp) rfl q2
  | panic v =>
   cases e <;> first | exact q1.elim | skip
   obtain ⟨y, hy1, hy2⟩ := q1
   subst hy1
   exact fin (some v) (.panicking [{ v := y, recovered := false }]) (by simp) ⟨y, rfl, hy2.withXO _⟩ q2
 unfold Oper.wpIn
 refine ⟨fun _ _ => trivial, ?_⟩
 rw [Oper.semAt_eq _ _ _ nd1]
 rcases hy with hy | ⟨hy, rfl⟩
 ·rw [hy, Oper.uponIn_value, hd1]; exact hrest
 ·rw [hy, Oper.uponIn_skip, hd1]; exact hrest
end Go.Av
end
section
namespace Go.Av.Fx
open Go Go.Av Go.Av.Tb Go.Proofs
open Go.Fw (Sq ent Bd Mat)
theorem AC.of_iso {P : Program} {f : FuncId} {args : List AV} {Q Qp : AV → Prop} (h : AC P f args St.empty fun e _ => (∃ v, e = .ret v ∧ Q v) ∨ (∃ v, e = .panic v ∧ Qp v)) (ha : bndL 0 0 args = true) (hQ : ∀ v, Q v → v.bnd 0 0 = true) (hQp : ∀ v, Qp v → v.bnd 0 0 = true) (S : St) :
  AC P f args S fun e S' => ((∃ v, e = .ret v ∧ Q v) ∨ (∃ v, e = .panic v ∧ Qp v)) ∧ S' = S := by
 intro c w vs hs hl
 obtain ⟨cE, hE, eK, eμ, eτ, esz, eX, eXO, eB, eT, eF⟩ := hide hs
 refine (h cE w vs hE (hl.free ha fun b o u e => by rw [eK]; exact e)).mono fun e w' ⟨ae, S', c', h1, h2, h3, h4⟩ => ?_
 obtain ⟨g1, g2⟩ := unhide hs h1 h4 eK esz eX eXO eB eT hE (fun b o e => eF ▸ e) (by rw [eF])
 rcases h2 with ⟨v, rfl, hv⟩ | ⟨v, rfl, hv⟩
 ·cases e with
  | returned x => exact ⟨.ret v, S, back c c', g1, ⟨.inl ⟨v, rfl, hv⟩, rfl⟩, VRel.free h3 (hQ v hv) (fun _ _ _ e => e), g2⟩
  | panicked ch => exact h3.elim
  | outgrown => exact h3.elim
 ·cases e with
  | returned x => exact h3.elim
  | panicked ch =>
   obtain ⟨x, hx, hxv⟩ := h3
   exact ⟨.panic v, S, back c c', g1, ⟨.inr ⟨v, rfl, hv⟩, rfl⟩, ⟨x, hx, VRel.free hxv (hQp v hv) (fun _ _ _ e => e)⟩, g2⟩
  | outgrown => exact h3.elim
structure Truth where
 inflow : Int
 losses : List Int
abbrev trC (t : Truth) : List AV := [.int .i64 t.inflow, sl t.losses]
attribute [go_sem] trC
@[go_sem] theorem d174 : descOf T 174 = some ti174.desc := rfl
@[go_sem] theorem i174 : isIface ti174.desc = false := rfl
@[go_sem] theorem bd174 (a : Int) : buildA T 174 [(0, .int .i64 a)] = some (.agg [.int .i64 a]) := rfl
end Go.Av.Fx
end
section
namespace Go.Av.Fx
open Go Go.Av Go.Av.Tb Go.Proofs
open Go.Fw (Sq ent Bd Mat)
noncomputable def Ek (n : Nat) (S : St) : Env := { E n with base := S.heap.length, bt := S.nt, K := false }
theorem Ek_ok (n : Nat) (S : St) : (Ek n S).Ok := ⟨(E_ok n).T, (E_ok n).M, (E_ok n).Cle, (E_ok n).Y⟩
@[go_sem] theorem Ek_T (n : Nat) (S : St) : (Ek n S).T = T := rfl
@[go_sem] theorem Ek_P (n : Nat) (S : St) : (Ek n S).P = Tryz.prog := rfl
@[go_sem] theorem from_T (E : Env) (S : St) : (E.from S).T = E.T := rfl
@[go_sem] theorem from_P (E : Env) (S : St) : (E.from S).P = E.P := rfl
@[go_sem] theorem eqn20 : binA T .eql 20 .nilIface .nilIface = some (.bool true) := rfl
@[go_sem] theorem eqi20 (t : TypeId) (v : AV) : binA T .eql 20 (.iface t v) .nilIface = some (.bool false) := rfl
@[go_sem] theorem ta174 (v : AV) : typeAssertA T (.iface 174 v) 174 true = some (.tuple [v, .bool true]) := rfl
@[go_sem] theorem ta174n (v : AV) : typeAssertA T (.iface 176 v) 174 true = some (.tuple [.agg [.int .i64 0], .bool false]) := rfl
@[go_sem] theorem ta176 (v : AV) : typeAssertA T (.iface 176 v) 176 true = some (.tuple [v, .bool true]) := rfl
def c141t : MC := (.block 0 (.seq (.region [0, 5, 7] r141_3) (.cond (.tmp 7) (.region [] r141_4) (.seq (.region [0, 5, 9, 10] r141_5) (.cond (.tmp 9) (.seq (.region [0] r141_6) (.region [] r141_7)) (.seq (.region [0, 5, 12, 13] r141_8) (.cond (.tmp 12) (.seq (.region [0] r141_9) (.region [] r141_10)) (.seq (.region [4] r141_1) (.region [] r141_2)))))))))
def caught (b : Nat) (k : Int) (x : AV) (S : St) : St := ⟨setH (S.heap ++ [some (.cells x.cells)]) b (.cells [.int .i64 k]), S.nt, S.toks⟩
theorem cellsAt_app {h : List (Option Blk)} {b : Nat} {l : List AV} (hb : cellsAt h b = some l) (g : List (Option Blk)) : cellsAt (h ++ g) b = some l := by
 unfold cellsAt at hb ⊢
 have : b < h.length := by
  rcases Nat.lt_or_ge b h.length with h' | h'
  ·exact h'
  ·rw [List.getElem?_eq_none h'] at hb; cases hb
 rw [List.getElem?_append_left this]; exact hb
theorem cellsAt_end (h : List (Option Blk)) (l : List AV) : cellsAt (h ++ [some (.cells l)]) h.length = some l := by
 unfold cellsAt; rw [List.getElem?_append_right (Nat.le_refl _), Nat.sub_self]; rfl
theorem setH_end (h : List (Option Blk)) (x : Option Blk) (B : Blk) : setH (h ++ [x]) h.length B = h ++ [some B] := by
 have := setH_app h [x] 0 B
 rw [Nat.add_zero] at this; rw [this]; rfl
theorem try1_none (b : Nat) (S : St) : DC Tryz.prog 141 [.ref b 0] none S fun S' => S' = S := by
 refine DC.run (E := Ek 14 S) (Ek_ok 14 S) mix (fn := Tryz.f141) (mc := c141t) (d := 5) (ks := lk [(0, [0, 5]), (1, [4]), (2, []), (3, [0, 5, 7]), (4, []), (5, [0, 5, 9, 10]), (6, [0]), (7, []), (8, [0, 5, 12, 13]), (9, [0]), (10, [])]) (dm := lk1 []) Tryz.func141 rfl rfl rfl rfl (by kernel_rfl) rfl rfl (Nat.le_of_ble_eq_true rfl) (show 5 < 14 by decide) rfl rfl rfl (fun _ => trivial) rfl ?_
 simp only [go_sem, c141t, Option.getD_none, reduceEqDiff, Nat.reduceBEq, reduceAdd, reduceIte, reduceCtorEq, reduceLeDiff]
theorem try1_174 (b : Nat) (S : St) (p : Int) (hb : cellsAt S.heap b = some [.int .i64 0]) : DC Tryz.prog 141 [.ref b 0] (some (.iface 174 (.agg [.int .i64 p]))) S fun S' => S' = caught b 7 (.agg [.int .i64 p]) S := by
 refine DC.run (E := Ek 14 S) (Ek_ok 14 S) mix (fn := Tryz.f141) (mc := c141t) (d := 5) (ks := lk [(0, [0, 5]), (1, [4]), (2, []), (3, [0, 5, 7]), (4, []), (5, [0, 5, 9, 10]), (6, [0]), (7, []), (8, [0, 5, 12, 13]), (9, [0]), (10, [])]) (dm := lk1 []) Tryz.func141 rfl rfl rfl rfl (by kernel_rfl) rfl rfl (Nat.le_of_ble_eq_true rfl) (show 5 < 14 by decide) rfl rfl rfl (fun _ => trivial) rfl ?_
 have h1 : ∀ g, cellsAt (S.heap ++ g) b = some [.int .i64 0] := cellsAt_app hb
 have h2 := cellsAt_end S.heap
 have h3 := setH_end S.heap
 simp only [go_sem, c141t, Option.getD_some, extractA, put_eq, h1, h2, h3, reduceEqDiff, Nat.reduceBEq, reduceAdd, reduceIte, reduceCtorEq, reduceLeDiff]
 rfl
theorem try1_176 (b : Nat) (S : St) (p : ByteArray) (hb : cellsAt S.heap b = some [.int .i64 0]) : DC Tryz.prog 141 [.ref b 0] (some (.iface 176 (.agg [.str p]))) S fun S' => S' = caught b 4 (.agg [.str p]) S := by
 refine DC.run (E := Ek 14 S) (Ek_ok 14 S) mix (fn := Tryz.f141) (mc := c141t) (d := 5) (ks := lk [(0, [0, 5]), (1, [4]), (2, []), (3, [0, 5, 7]), (4, []), (5, [0, 5, 9, 10]), (6, [0]), (7, []), (8, [0, 5, 12, 13]), (9, [0]), (10, [])]) (dm := lk1 []) Tryz.func141 rfl rfl rfl rfl (by kernel_rfl) rfl rfl (Nat.le_of_ble_eq_true rfl) (show 5 < 14 by decide) rfl rfl rfl (fun _ => trivial) rfl ?_
 have h1 : ∀ g, cellsAt (S.heap ++ g) b = some [.int .i64 0] := cellsAt_app hb
 have h2 := cellsAt_end S.heap
 have h3 := setH_end S.heap
 simp only [go_sem, c141t, Option.getD_some, extractA, put_eq, h1, h2, h3, reduceEqDiff, Nat.reduceBEq, reduceAdd, reduceIte, reduceCtorEq, reduceLeDiff]
 rfl
theorem DC.mono {P : Program} {g : FuncId} {caps : List AV} {pan : Option AV} {S : St} {R R' : St → Prop} (h : DC P g caps pan S R) (hr : ∀ S', R S' → R' S') : DC P g caps pan S R' :=
 fun c w vs u h1 h2 h3 => (h c w vs u h1 h2 h3).mono fun e u' w' ⟨a1, a2, S', c', a3, a4, a5⟩ => ⟨a1, a2, S', c', a3, hr _ a4, a5⟩
@[go_sem] theorem endQ_ret (E : Env) (rs : List ResultVar) (g : FuncId) (caps : List AV) (R : AEnd → St → Prop) (ts : TS) (S : St) : endQ E rs g caps R .ret ts S = DC E.P g caps none S fun S2 => ∃ vs, resA E.T S2 ts rs = some vs ∧ R (.ret (tupA vs)) S2 := rfl
@[go_sem] theorem endQ_panic (E : Env) (rs : List ResultVar) (g : FuncId) (caps : List AV) (R : AEnd → St → Prop) (v : AV) (ts : TS) (S : St) : endQ E rs g caps R (.panic v) ts S = DC E.P g caps (some v) S fun S2 => ∃ vs, resA E.T S2 ts rs = some vs ∧ R (.ret (tupA vs)) S2 := rfl
theorem setH_same : ∀ {h : List (Option Blk)} {b : Nat} {l : List AV}, cellsAt h b = some l → setH h b (.cells l) = h
 | [], b, l, h => by simp [cellsAt] at h
 | x :: h, 0, l, e => by
  simp only [cellsAt, List.getElem?_cons_zero] at e
  show some (.cells l) :: h = _
  split at e
  ·rename_i q hq
   simp only [Option.some.injEq] at hq e; subst e; rw [hq]
  ·cases e
 | x :: h, b + 1, l, e => by
  show x :: setH h b _ = _
  rw [setH_same (h := h) (b := b) (l := l) (by simpa [cellsAt] using e)]
theorem cellsAt_set {h : List (Option Blk)} {b : Nat} {l l' : List AV} (hb : cellsAt h b = some l) (g : List (Option Blk)) : cellsAt (setH (h ++ g) b (.cells l')) b = some l' := by
 have hlt : b < h.length := by
  unfold cellsAt at hb
  rcases Nat.lt_or_ge b h.length with h' | h'
  ·exact h'
  ·rw [List.getElem?_eq_none h'] at hb; cases hb
 have : ∀ (h : List (Option Blk)) (b : Nat), b < h.length → cellsAt (setH h b (.cells l')) b = some l' := by
  intro h
  induction h with
  | nil => intro b hb; simp at hb
  | cons x h ih =>
   intro b hb
   cases b with
   | zero => rfl
   | succ b =>
    have := ih b (by simpa using hb)
    simpa [cellsAt, setH] using this
 exact this _ _ (by simp; omega)
theorem try_ac {S : St} {g : FuncId} {caps : List AV} {R0 R : AEnd → St → Prop} (ng : Callable Tryz.prog g) (hdo : AC Tryz.prog g caps ⟨S.heap ++ [some (.cells [.int .i64 0])], S.nt, S.toks⟩ R0)
  (hret : ∀ v S', R0 (.ret v) S' → cellsAt S'.heap S.heap.length = some [.int .i64 0] ∧ R (.ret (.int .i64 0)) S')
  (hpan : ∀ v S', R0 (.panic v) S' → cellsAt S'.heap S.heap.length = some [.int .i64 0] ∧ ((∃ p : Int, v = .iface 174 (.agg [.int .i64 p]) ∧ R (.ret (.int .i64 7)) (caught S.heap.length 7 (.agg [.int .i64 p]) S')) ∨ (∃ s : ByteArray, v = .iface 176 (.agg [.str s]) ∧ R (.ret (.int .i64 4)) (caught S.heap.length 4 (.agg [.str s]) S')))) :
  AC Tryz.prog 108 [.func (.func g) [] caps] S R := by
 refine AC.deferring (E := Ek 6 S) (Ek_ok 6 S) mix (fn := Tryz.f108) (t := 3) (ma := .region [0, 2] r108_0) (mx := .seq (.region [2] r108_2) (.seq (.region [2] r108_3) .ret)) (ks := lk [(0, [0, 2]), (1, [0, 2]), (2, [2]), (3, [2])]) (dm := lk1 []) Tryz.func108 rfl rfl rfl rfl rfl rfl (by kernel_rfl) (by kernel_rfl) rfl (show 3 < 6 by decide) rfl rfl (Nat.le_of_ble_eq_true rfl) rfl (fun _ => trivial) rfl ?_
 simp only [go_sem, reduceEqDiff, Nat.reduceBEq, reduceAdd, reduceIte, reduceCtorEq, reduceLeDiff]
 refine ⟨141, [.ref S.heap.length 0], rfl, n141, ?_⟩
 refine call_ac (E := (Ek 6 S).from _) ng hdo ?_ ?_
 ·intro v S' hR
  obtain ⟨h1, h2⟩ := hret v S' hR
  have h3 := setH_same h1
  simp only [go_sem, h1, put_eq, h3, Tryz.f108, reduceEqDiff, Nat.reduceBEq, reduceAdd, reduceIte, reduceCtorEq, reduceLeDiff]
  refine DC.mono (try1_none _ _) fun S2 e => ?_
  subst e
  exact ⟨[.int .i64 0], by simp only [go_sem, h1, reduceEqDiff, Nat.reduceBEq, reduceAdd, reduceIte, reduceCtorEq, reduceLeDiff], h2⟩
 ·intro v S' hR
  obtain ⟨h1, h2⟩ := hpan v S' hR
  rcases h2 with ⟨p, rfl, h2⟩ | ⟨p, rfl, h2⟩
  ·refine DC.mono (try1_174 _ _ p h1) fun S2 e => ?_
   subst e
   have hcs : cellsAt (caught S.heap.length 7 (.agg [.int .i64 p]) S').heap S.heap.length = some [.int .i64 7] := cellsAt_set h1 _
   exact ⟨[.int .i64 7], by simp only [go_sem, Tryz.f108, hcs, reduceEqDiff, Nat.reduceBEq, reduceAdd, reduceIte, reduceCtorEq, reduceLeDiff], h2⟩
  ·refine DC.mono (try1_176 _ _ p h1) fun S2 e => ?_
   subst e
   have hcs : cellsAt (caught S.heap.length 4 (.agg [.str p]) S').heap S.heap.length = some [.int .i64 4] := cellsAt_set h1 _
   exact ⟨[.int .i64 4], by simp only [go_sem, Tryz.f108, hcs, reduceEqDiff, Nat.reduceBEq, reduceAdd, reduceIte, reduceCtorEq, reduceLeDiff], h2⟩
end Go.Av.Fx
end
section
namespace Go.Av.Fx
open Go Go.Av Go.Av.Tb Go.Proofs
open Go.Fw (Sq ent Bd Mat)
def rowsO (off m n : Nat) : List AV := (List.range m).map fun i => .sref (off + i) 0 n n
@[simp] theorem rowsO_len (off m n : Nat) : (rowsO off m n).length = m := by simp [rowsO]
theorem rowsO_get {off m n i : Nat} (h : i < m) : (rowsO off m n)[i]? = some (.sref (off + i) 0 n n) := by
 simp [rowsO, List.getElem?_range h]
theorem rowsO_snoc (off m n : Nat) : rowsO off m n ++ [.sref (off + m) 0 n n] = rowsO off (m + 1) n := by simp [rowsO, List.range_succ]
abbrev gA (off n : Nat) : AV := .slice (rowsO off n n) n .unk
theorem cells_mid {A C : List (Option Blk)} {V : Mat} {n : Nat} (h : Sq n V) {a : Nat} (ha : a < n) {off : Nat} (ho : A.length = off) : cellsAt (A ++ (heapR V ++ C)) (off + a) = some (ints (V.getD a [])) := by
 subst ho
 have hl : a < V.length := by rw [h.1]; exact ha
 unfold cellsAt
 rw [List.getElem?_append_right (by omega), Nat.add_sub_cancel_left, heapR_get hl, List.getD_eq_getElem?_getD, List.getElem?_eq_getElem hl]; rfl
theorem setH_mid {A C : List (Option Blk)} {V : Mat} {n : Nat} (h : Sq n V) {a : Nat} (ha : a < n) {off : Nat} (ho : A.length = off) (b : Nat) (v : Int) :
  setH (A ++ (heapR V ++ C)) (off + a) (.cells ((ints (V.getD a [])).set b (.int .i64 v))) = A ++ (heapR (Fw.put V a b v) ++ C) := by
 subst ho
 have hl : a < V.length := by rw [h.1]; exact ha
 rw [setH_app, ints_set, setH_R hl]; rfl
theorem differ_ac {A C : List (Option Blk)} {V : Mat} {n : Nat} (h : Sq n V) {off : Nat} (ho : A.length = off) {to frm : Nat} (ht : to < n) (hf : frm < n) (lo hi : Int) (hlo : IntKind.i64.wrap (0 - lo) = -lo) (nt : Nat) (toks : List Nat) :
  AC Tryz.prog 137 [gA off n, .int .i64 to, .int .i64 frm, .int .i64 lo, .int .i64 hi] ⟨A ++ (heapR V ++ C), nt, toks⟩ fun e S' => e = .ret (.tuple []) ∧ S' = ⟨A ++ (heapR (Fw.addc (Fw.addc V ⟨frm, to, hi⟩) ⟨to, frm, -lo⟩) ++ C), nt, toks⟩ := by
 refine AC.run (Es_ok _ _) mix Tryz.func137 m137 rfl rfl rfl (Nat.le_of_ble_eq_true rfl) ?_
 have xa : 0 ≤ (frm : Int) ∧ (frm : Int) < (n : Int) := by omega
 have xb : 0 ≤ (to : Int) ∧ (to : Int) < (n : Int) := by omega
 have ra := rowsO_get (off := off) (n := n) hf
 have rb := rowsO_get (off := off) (n := n) ht
 have k1 : to + 1 ≤ n := by omega
 have k2 : frm + 1 ≤ n := by omega
 have c1 := cells_mid (C := C) h hf ho
 have e1 := ints_ent h hf ht
 have l1 := h.getD hf
 have s1 : setH (A ++ (heapR V ++ C)) (off + frm) (.cells ((ints (V.getD frm [])).set to (.int .i64 (if hi < ent V frm to then hi else ent V frm to)))) = A ++ (heapR (Fw.addc V ⟨frm, to, hi⟩) ++ C) := by
  rw [setH_mid h hf ho, show (if hi < ent V frm to then hi else ent V frm to) = min (ent V frm to) hi by omega]; rfl
 have h2 : Sq n (Fw.addc V ⟨frm, to, hi⟩) := h.put _ _ _
 generalize Fw.addc V ⟨frm, to, hi⟩ = V2 at *
 have c2 := cells_mid (C := C) h2 ht ho
 have e2 := ints_ent h2 ht hf
 have l2 := h2.getD ht
 have s2 : setH (A ++ (heapR V2 ++ C)) (off + to) (.cells ((ints (V2.getD to [])).set frm (.int .i64 (if -lo < ent V2 to frm then -lo else ent V2 to frm)))) = A ++ (heapR (Fw.addc V2 ⟨to, frm, -lo⟩) ++ C) := by
  rw [setH_mid h2 ht ho, show (if -lo < ent V2 to frm then -lo else ent V2 to frm) = min (ent V2 to frm) (-lo) by omega]; rfl
 simp only [go_sem, xa, ra, xb, c1, e1, k1, l1, s1, nat_idx, Nat.mul_one, and_self, builtinA, minsA, AV.cells, AV.one, List.all_cons, List.all_nil, Bool.and_self, splice, ints_len, put_eq, reduceEqDiff, Nat.reduceBEq, reduceAdd, reduceIte, reduceCtorEq, reduceLeDiff]
 simp only [go_sem, xa, rb, xb, c2, e2, k2, l2, s2, nat_idx, Nat.mul_one, and_self, builtinA, minsA, AV.cells, AV.one, List.all_cons, List.all_nil, Bool.and_self, splice, ints_len, put_eq, unA, hlo, Tryz.f137, reduceEqDiff, Nat.reduceBEq, reduceAdd, reduceIte, reduceCtorEq, reduceLeDiff]
 exact ⟨rfl, trivial⟩
end Go.Av.Fx
end
section
namespace Go.Av.Fx
open Go Go.Av Go.Av.Tb Go.Proofs
open Go.Fw (Sq ent Bd Mat)
def begE (i k : Nat) : Int := if 0 < i ∧ k = 0 then 0 else if k = i then 0 else 400
def begRow (n i : Nat) : List Int := (List.range n).map (begE i)
def begP (n i j : Nat) : List Int := (List.range n).map fun q => if q < j then begE i q else 0
theorem begP_zero (n i : Nat) : begP n i 0 = List.replicate n 0 := by
 unfold begP
 simp only [Nat.not_lt_zero, if_false]
 rw [List.map_const', List.length_range]
theorem begP_full (n i : Nat) : begP n i n = begRow n i := by
 unfold begP begRow
 refine List.map_congr_left fun q hq => ?_
 rw [if_pos (List.mem_range.1 hq)]
@[simp] theorem begP_len (n i j : Nat) : (begP n i j).length = n := by simp [begP]
theorem begP_get {n i j q : Nat} (h : q < n) : (begP n i j)[q]? = some (if q < j then begE i q else 0) := by
 unfold begP; rw [List.getElem?_map, List.getElem?_range h]; rfl
theorem begP_succ {n i j : Nat} (h : j < n) (x : Int) (hx : x = begE i j) : (begP n i j).set j x = begP n i (j + 1) := by
 subst hx
 apply List.ext_getElem?
 intro q
 rw [List.getElem?_set, begP_len]
 by_cases e : j = q
 ·subst e
  rw [if_pos rfl, if_pos h, begP_get h, if_pos (Nat.lt_succ_self j)]
 ·rw [if_neg e]
  by_cases hq : q < n
  ·rw [begP_get hq, begP_get hq]
   by_cases g : q < j
   ·rw [if_pos g, if_pos (by omega)]
   ·rw [if_neg g, if_neg (by omega)]
  ·rw [List.getElem?_eq_none (by simp; omega), List.getElem?_eq_none (by simp; omega)]
theorem begP_skip {n i j : Nat} (h : j < n) (hx : begE i j = 0) : begP n i (j + 1) = begP n i j := by
 rw [← begP_succ h 0 hx.symm]
 apply List.ext_getElem?
 intro q
 rw [List.getElem?_set, begP_len]
 by_cases e : j = q
 ·subst e
  rw [if_pos rfl, if_pos h, begP_get h, if_neg (Nat.lt_irrefl j)]
 ·rw [if_neg e]
def wO (off n : Nat) : Nat → AV
 | 0 => .nilS
 | m + 1 => .slice (rowsO off (m + 1) n) (m + 1) (.tok m)
@[go_sem] theorem bs114 (i o n c : Nat) : buildSliceA T 114 1 [(0, .sref i o n c)] = some (.slice [.sref i o n c] 1 .exact) := rfl
theorem sr_appO {K : AV → St → Prop} {hK : Hold K} {h : List (Option Blk)} {k n off : Nat} (hk : k ≤ 1000)
  (next : K (wO off n (k + 1)) ⟨h, k + 1, toksN (k + 1)⟩) : sr K hK (appendA T ⟨h, k, toksN k⟩ 114 (wO off n k) (.slice [.sref (off + k) 0 n n] 1 .exact)) ⟨h, k, toksN k⟩ := by
 cases k with
 | zero =>
  have : appendA T ⟨h, 0, toksN 0⟩ 114 (wO off n 0) (.slice [.sref (off + 0) 0 n n] 1 .exact) = some (.tok none (fun j => .slice [.sref (off + 0) 0 n n] 1 (.tok j))) := rfl
  rw [this, sr_tok]; exact next
 | succ k =>
  show sr K hK (appendA T ⟨h, k + 1, toksN (k + 1)⟩ 114 (.slice (rowsO off (k + 1) n) (k + 1) (.tok k)) _) _
  rw [app_gen (e := 22) (ei := ti22) (lx := [.sref (off + (k + 1)) 0 n n]) (nx := 1) rfl rfl (by decide) rfl (by decide) rfl (by show (k + 1 + 1) * 24 ≤ _; omega) (by omega) (by simp [ti22])]
  rw [sr_tok_some]
  refine ⟨List.mem_cons_self, ?_⟩
  have : killTok (toksN (k + 1)) (some k) = [] := by simp [killTok, toksN]
  show K (.slice (rowsO off (k + 1) n ++ [.sref (off + (k + 1)) 0 n n]) (k + 1 + 1) (.tok (k + 1))) ⟨h, k + 1 + 1, (k + 1) :: killTok (toksN (k + 1)) (some k)⟩
  rw [this, rowsO_snoc]; exact next
theorem cells_end {A : List (Option Blk)} {R : Mat} {k : Nat} (hR : R.length = k) (l : List AV) : cellsAt (A ++ (heapR R ++ [some (.cells l)])) (A.length + k) = some l := by
 rw [← List.append_assoc]
 have := cellsAt_end (A ++ heapR R) l
 rw [List.length_append, heapR_len, hR] at this; exact this
theorem setH_fin {A : List (Option Blk)} {R : Mat} {k : Nat} (hR : R.length = k) (x : Option Blk) (B : Blk) : setH (A ++ (heapR R ++ [x])) (A.length + k) B = A ++ (heapR R ++ [some B]) := by
 rw [← List.append_assoc, ← List.append_assoc]
 have := setH_end (A ++ heapR R) x B
 rw [List.length_append, heapR_len, hR] at this; exact this
theorem begin_ac (A : List (Option Blk)) (many : Nat) (hm : many ≤ 100) : AC Tryz.prog 120 [.int .i64 many] ⟨A, 0, []⟩ fun e S' => e = .ret (.slice (rowsO A.length (many + 1) (many + 1)) (many + 1) (.tok many)) ∧ S' = ⟨A ++ heapR (begM (many + 1)), many + 1, [many]⟩ := by
 refine AC.run (Es_ok _ _) mix Tryz.func120 m120 rfl rfl rfl (Nat.le_of_ble_eq_true rfl) ?_
 simp only [go_sem, reduceEqDiff, Nat.reduceBEq, reduceAdd, reduceIte, reduceCtorEq, reduceLeDiff]
 refine wc_for (many + 1) (fun k => [(0, .int .i64 many), (3, wO A.length (many + 1) k), (4, .int .i64 k)]) (fun k => ⟨A ++ heapR ((List.range k).map (begRow (many + 1))), k, toksN k⟩) rfl (by simp [heapR, toksN]) ?_
 intro k hk I hI
 by_cases h : k < many + 1
 ·have h' : (k : Int) ≤ many := by omega
  have w1 : IntKind.i64.wrap ((many : Int) + 1) = (many + 1 : Nat) := wrap64 (by omega)
  have w2 : IntKind.i64.wrap ((k : Int) + 1) = (k + 1 : Nat) := wrap64 (by omega)
  have hms := mk22 (k := .i64) (k' := .i64) (n := many + 1) (by omega)
  have hRl : ((List.range k).map (begRow (many + 1))).length = k := by simp
  have hl : (A ++ heapR ((List.range k).map (begRow (many + 1)))).length = A.length + k := by rw [List.length_append, heapR_len, hRl]
  rw [← begP_zero (many + 1) k] at hms
  simp only [go_sem, l120_0, h', decide_true, w1, hms, hl, reduceEqDiff, Nat.reduceBEq, reduceAdd, reduceIte, reduceCtorEq, reduceLeDiff]
  refine wc_for (many + 1) (fun j => [(0, .int .i64 many), (3, wO A.length (many + 1) k), (4, .int .i64 k), (5, .sref (A.length + k) 0 (many + 1) (many + 1)), (6, .int .i64 j)]) (fun j => ⟨A ++ (heapR ((List.range k).map (begRow (many + 1))) ++ [some (.cells (ints (begP (many + 1) k j)))]), k, toksN k⟩) rfl rfl ?_
  intro j hj I2 hI2
  have c1 := fun l => cells_end (A := A) hRl l
  have c2 := fun x B => setH_fin (A := A) hRl x B
  by_cases hjn : j < many + 1
  ·have hj' : (j : Int) ≤ many := by omega
   have w3 : IntKind.i64.wrap ((j : Int) + 1) = (j + 1 : Nat) := wrap64 (by omega)
   have x1 : 0 ≤ (j : Int) ∧ (j : Int) < (many + 1 : Nat) := by omega
   have k1 : j + 1 ≤ many + 1 := by omega
   have hn := hI2 hjn
   by_cases hjk : j = k
   ·have e1 : ¬ ((j : Int) ≠ k) := by omega
    have hz : begE k j = 0 := by unfold begE; rw [if_pos hjk]; split <;> rfl
    rw [begP_skip hjn hz] at hn
    by_cases hk0 : (k : Int) > 0
    ·have e2 : ¬ ((j : Int) = 0) := by omega
     simp only [go_sem, l120_1, hj', decide_true, decide_false, e1, hk0, e2, w3, reduceEqDiff, Nat.reduceBEq, reduceAdd, reduceIte, reduceCtorEq, reduceLeDiff]
     exact hn
    ·simp only [go_sem, l120_1, hj', decide_true, decide_false, e1, hk0, w3, reduceEqDiff, Nat.reduceBEq, reduceAdd, reduceIte, reduceCtorEq, reduceLeDiff]
     exact hn
   ·have e1 : ((j : Int) ≠ k) := by omega
    have d1 : decide ((j : Int) ≠ k) = true := decide_eq_true e1
    by_cases hk0 : (k : Int) > 0
    ·by_cases e2 : ((j : Int) = 0)
     ·have hv : begE k j = 0 := by unfold begE; rw [if_pos ⟨by omega, by omega⟩]
      rw [← begP_succ hjn 0 hv.symm] at hn
      simp only [go_sem, l120_1, hj', decide_true, d1, hk0, x1, nat_idx, Nat.mul_one, and_self, c1, k1, ints_len, begP_len, put_eq, AV.cells, AV.one, List.all_cons, List.all_nil, Bool.and_self, splice, ints_set, c2, reduceEqDiff, Nat.reduceBEq, reduceAdd, reduceIte, reduceCtorEq, reduceLeDiff]
      have d2 : decide ((j : Int) = 0) = true := decide_eq_true e2
      simp only [go_sem, d2, decide_true, x1, nat_idx, Nat.mul_one, and_self, c1, k1, ints_len, begP_len, List.length_set, put_eq, AV.cells, AV.one, List.all_cons, List.all_nil, Bool.and_self, splice, ints_set, c2, w3, List.set_set, reduceEqDiff, Nat.reduceBEq, reduceAdd, reduceIte, reduceCtorEq, reduceLeDiff]
      exact hn
     ·have hv : begE k j = 400 := by unfold begE; rw [if_neg (by omega), if_neg hjk]
      rw [← begP_succ hjn 400 hv.symm] at hn
      have d2 : decide ((j : Int) = 0) = false := decide_eq_false e2
      simp only [go_sem, l120_1, hj', decide_true, d1, hk0, x1, nat_idx, Nat.mul_one, and_self, c1, k1, ints_len, begP_len, put_eq, AV.cells, AV.one, List.all_cons, List.all_nil, Bool.and_self, splice, ints_set, c2, d2, w3, reduceEqDiff, Nat.reduceBEq, reduceAdd, reduceIte, reduceCtorEq, reduceLeDiff]
      exact hn
    ·have hv : begE k j = 400 := by unfold begE; rw [if_neg (by omega), if_neg hjk]
     rw [← begP_succ hjn 400 hv.symm] at hn
     simp only [go_sem, l120_1, hj', decide_true, decide_false, d1, hk0, x1, nat_idx, Nat.mul_one, and_self, c1, k1, ints_len, begP_len, put_eq, AV.cells, AV.one, List.all_cons, List.all_nil, Bool.and_self, splice, ints_set, c2, w3, reduceEqDiff, Nat.reduceBEq, reduceAdd, reduceIte, reduceCtorEq, reduceLeDiff]
     exact hn
  ·have hj' : ¬ (j : Int) ≤ many := by omega
   have ej : j = many + 1 := by omega
   subst ej
   rw [begP_full]
   simp only [go_sem, l120_1, hj', decide_false, builtinA, reduceEqDiff, Nat.reduceBEq, reduceAdd, reduceIte, reduceCtorEq, reduceLeDiff]
   refine sr_appO (by omega) ?_
   simp only [go_sem, w2, reduceEqDiff, Nat.reduceBEq, reduceAdd, reduceIte, reduceCtorEq, reduceLeDiff]
   have := hI h
   rw [List.range_succ, List.map_append, List.map_cons, List.map_nil, ← heapR_snoc] at this
   exact this
 ·have h' : ¬ (k : Int) ≤ many := by omega
  have ek : k = many + 1 := by omega
  subst ek
  have hw : wO A.length (many + 1) (many + 1) = .slice (rowsO A.length (many + 1) (many + 1)) (many + 1) (.tok many) := rfl
  simp only [go_sem, l120_0, h', decide_false, hw, Tryz.f120, reduceEqDiff, Nat.reduceBEq, reduceAdd, reduceIte, reduceCtorEq, reduceLeDiff]
  rw [← List.range_succ]
  rfl
end Go.Av.Fx
end
section
namespace Go.Av.Fx
open Go Go.Av Go.Av.Tb Go.Proofs
open Go.Fw (Sq ent Bd Mat upd row stage upto)
theorem AC.args {P : Program} {f : FuncId} {args args' : List AV} {S : St} {R : AEnd → St → Prop} (h : AC P f args' S R) (hs : SubL args args') : AC P f args S R :=
 fun c w vs h1 h2 => h c w vs h1 (hs c vs h2)
theorem fold_sq {n : Nat} : ∀ (cs : List Bd) {W : Mat}, Sq n W → Sq n (cs.foldl Fw.addc W)
 | [], _, h => h
 | c :: cs, _, h => fold_sq cs (h.put _ _ _)
theorem cells_tail {A C : List (Option Blk)} {V : Mat} {n : Nat} (h : Sq n V) (l : List AV) (X : List (Option Blk)) : cellsAt (A ++ (heapR V ++ (C ++ some (.cells l) :: X))) (A.length + (n + C.length)) = some l := by
 unfold cellsAt
 rw [List.getElem?_append_right (by omega), Nat.add_sub_cancel_left, List.getElem?_append_right (by rw [heapR_len, h.1]; omega), heapR_len, h.1, Nat.add_sub_cancel_left, List.getElem?_append_right (Nat.le_refl _), Nat.sub_self]; rfl
def gvB (l : LLine) (s : List Int) (b i : Nat) : List Bd := [⟨b + i, b + i + 1, -lowL l s i⟩, ⟨b + i + 1, b + i, highL l s i⟩]
def ctB (b : Nat) (c : Cnt) : List Bd := [⟨0, b + c.point.toNat, c.high⟩, ⟨b + c.point.toNat, 0, -c.low⟩]
theorem rlineB_eq (l : LLine) (s : List Int) (b : Nat) : rlineB l s b = (List.range l.gives.length).flatMap (gvB l s b) ++ l.counts.flatMap (ctB b) := rfl
theorem gline_ac {l : LLine} (h : Lw l) {A C : List (Option Blk)} {V : Mat} {n : Nat} (hV : Sq n V) {off : Nat} (ho : A.length = off) (s : List Int) (hs : s.length ≤ 1000) {b : Nat} (hb : 0 < b) (hbn : b + l.gives.length < n) (hn : n ≤ 1000) (nt : Nat) (toks : List Nat) :
  AC Tryz.prog 121 [gA off n, lineA l, sl s, .int .i64 b] ⟨A ++ (heapR V ++ C), nt, toks⟩ fun e S' => e = .ret (.tuple []) ∧ ∃ C', S' = ⟨A ++ (heapR ((rlineB l s b).foldl Fw.addc V) ++ C'), nt, toks⟩ := by
 have hp := h.pts
 refine AC.run (Es_ok _ _) mix Tryz.func121 m121 rfl rfl rfl (Nat.le_of_ble_eq_true rfl) ?_
 have hL0 : (A ++ (heapR V ++ C)).length = A.length + (n + C.length) := by rw [List.length_append, List.length_append, heapR_len, hV.1]
 simp only [go_sem, boxA, hL0, reduceEqDiff, Nat.reduceBEq, reduceAdd, reduceIte, reduceCtorEq, reduceLeDiff]
 refine wc_for l.gives.length (fun k => [(0, gA off n), (2, sl s), (3, .int .i64 b), (5, .ref (A.length + (n + C.length)) 0), (8, .int .i64 k)]) (fun k => ⟨A ++ (heapR (((List.range k).flatMap (gvB l s b)).foldl Fw.addc V) ++ (C ++ [some (.cells (lineC l))])), nt, toks⟩) rfl rfl ?_
 intro k hk I hI
 have hVk := fold_sq ((List.range k).flatMap (gvB l s b)) hV
 have hbox := cells_tail (A := A) (C := C) hVk (lineC l) []
 by_cases h' : k < l.gives.length
 ·have h1 : (k : Int) < l.gives.length := by omega
  have h2 : 0 ≤ (k : Int) ∧ (k : Int) < l.gives.length := by omega
  have h3 : l.gives[k]? = some (l.gives.getD k 0) := by rw [List.getD_eq_getElem?_getD, List.getElem?_eq_getElem h']; rfl
  have h4 : IntKind.i64.wrap ((k : Int) + 1) = (k + 1 : Nat) := wrap64 (by omega)
  have hg := h.give k
  have hle := h.least; have hmo := h.most
  have w1 : IntKind.i64.wrap (0 - l.gives.getD k 0) = -l.gives.getD k 0 := by rw [wrap64 (by omega)]; omega
  have w2 : IntKind.i64.wrap ((b : Int) + k) = (b + k : Nat) := by rw [wrap64 (by omega)]; omega
  have w3 : IntKind.i64.wrap (((b + k : Nat) : Int) + 1) = (b + k + 1 : Nat) := by rw [wrap64 (by omega)]; omega
  have hn' := hI h'
  rw [List.range_succ, List.flatMap_append, List.foldl_append] at hn'
  have e5 : [k].flatMap (gvB l s b) = gvB l s b k := by simp
  rw [e5] at hn'
  generalize ((List.range k).flatMap (gvB l s b)).foldl Fw.addc V = Vk at *
  unfold gvB at hn'
  simp only [go_sem, l121_0, builtinA, hbox, h1, decide_true, h2, ints_get, h3, unA, w1, reduceEqDiff, Nat.reduceBEq, reduceAdd, reduceIte, reduceCtorEq, reduceLeDiff]
  refine call_pure (E := Es _ _) n77 (has_pc s (by show _ < _; omega) k) (SubL.refl _) ?_
  cases hc : s.contains (k : Int)
  ·have e1 : lowL l s k = l.gives.getD k 0 := by unfold lowL; rw [hc]; rfl
   have e2 : highL l s k = l.gives.getD k 0 := by unfold highL; rw [hc]; rfl
   simp only [go_sem, w2, w3, reduceEqDiff, Nat.reduceBEq, reduceAdd, reduceIte, reduceCtorEq, reduceLeDiff]
   refine call_ac (E := Es _ _) n137 (differ_ac hVk ho (to := b + k + 1) (frm := b + k) (by omega) (by omega) _ _ (by rw [wrap64 (by omega)]; omega) nt toks) (fun v S' hR => ?_) (fun v S' hR => ?_)
   ·obtain ⟨e, rfl⟩ := hR
    cases e
    simp only [go_sem, h4, reduceEqDiff, Nat.reduceBEq, reduceAdd, reduceIte, reduceCtorEq, reduceLeDiff]
    rw [Int.neg_neg, ← e1]
    rw [e2, ← e1] at hn'
    exact hn'
   ·obtain ⟨e, _⟩ := hR
    cases e
  ·have w4 : IntKind.i64.wrap (-l.gives.getD k 0 - l.most) = -highL l s k := by
    unfold highL; rw [hc, if_pos rfl, wrap64 (by omega)]; omega
   have w5 : IntKind.i64.wrap (-l.gives.getD k 0 - l.least) = -lowL l s k := by
    unfold lowL; rw [hc, if_pos rfl, wrap64 (by omega)]; omega
   have hlow := h.low s k
   simp only [go_sem, w2, w3, w4, w5, hbox, reduceEqDiff, Nat.reduceBEq, reduceAdd, reduceIte, reduceCtorEq, reduceLeDiff]
   refine call_ac (E := Es _ _) n137 (differ_ac hVk ho (to := b + k + 1) (frm := b + k) (by omega) (by omega) _ _ (by rw [wrap64 (by omega)]; omega) nt toks) (fun v S' hR => ?_) (fun v S' hR => ?_)
   ·obtain ⟨e, rfl⟩ := hR
    cases e
    simp only [go_sem, h4, reduceEqDiff, Nat.reduceBEq, reduceAdd, reduceIte, reduceCtorEq, reduceLeDiff]
    rw [Int.neg_neg]
    exact hn'
   ·obtain ⟨e, _⟩ := hR
    cases e
 have h1 : ¬ (k : Int) < l.gives.length := by omega
 have e : k = l.gives.length := by omega
 subst e
 clear hI hk h'
 rw [rlineB_eq, List.foldl_append]
 simp only [go_sem, l121_0, builtinA, hbox, h1, decide_false, reduceEqDiff, Nat.reduceBEq, reduceAdd, reduceIte, reduceCtorEq, reduceLeDiff]
 generalize ((List.range l.gives.length).flatMap (gvB l s b)).foldl Fw.addc V = V2 at *
 clear hV hL0 hbox
 have hcts := h.cts
 refine wc_loop (fun m ts' S' => ∃ k X, k ≤ l.counts.length ∧ m = l.counts.length - k ∧ ts' = [(0, gA off n), (3, .int .i64 b), (5, .ref (A.length + (n + C.length)) 0), (11, .int .i64 k)] ∧ S' = ⟨A ++ (heapR (((l.counts.take k).flatMap (ctB b)).foldl Fw.addc V2) ++ (C ++ some (.cells (lineC l)) :: X)), nt, toks⟩) l.counts.length ⟨0, [], Nat.zero_le _, rfl, rfl, rfl⟩ ?_
 rintro m ts' S' ⟨k, X, hk, rfl, rfl, rfl⟩
 have hV3 := fold_sq ((l.counts.take k).flatMap (ctB b)) hVk
 have hbox := cells_tail (A := A) (C := C) hV3 (lineC l) X
 by_cases h' : k < l.counts.length
 ·have h1 : (k : Int) < l.counts.length := by omega
  have h2 : 0 ≤ (k : Int) ∧ (k : Int) < l.counts.length := by omega
  have h3 : k * 3 + 3 ≤ (cnts l.counts).length := by rw [cnts_len]; omega
  have h5 := cnts_at l.counts k h'
  have h4 : IntKind.i64.wrap ((k : Int) + 1) = (k + 1 : Nat) := wrap64 (by omega)
  have hn' : ((l.counts.take (k + 1)).flatMap (ctB b)).foldl Fw.addc V2 = (ctB b l.counts[k]).foldl Fw.addc (((l.counts.take k).flatMap (ctB b)).foldl Fw.addc V2) := by
   rw [List.take_succ_eq_append_getElem h', List.flatMap_append, List.foldl_append]; simp
  have hcb := h.counts _ (List.getElem_mem h')
  generalize ((l.counts.take k).flatMap (ctB b)).foldl Fw.addc V2 = V3 at *
  generalize l.counts[k] = c at *
  have w2 : IntKind.i64.wrap ((b : Int) + c.point) = (b + c.point.toNat : Nat) := by rw [wrap64 (by omega)]; omega
  have hd := differ_ac (A := A) (C := C ++ some (.cells (lineC l)) :: (X ++ [some (.cells (cntC c))])) hV3 ho (to := b + c.point.toNat) (frm := 0) (by omega) (by omega) c.low c.high (by rw [wrap64 (by omega)]; omega) nt toks
  have hH : ∀ y, A ++ (heapR V3 ++ (C ++ some (.cells (lineC l)) :: (X ++ [y]))) = (A ++ (heapR V3 ++ (C ++ some (.cells (lineC l)) :: X))) ++ [y] := fun y => by simp
  rw [hH] at hd
  generalize A ++ (heapR V3 ++ (C ++ some (.cells (lineC l)) :: X)) = H at hbox hd ⊢
  have c1 := cellsAt_end H
  have c2 := fun x B => setH_end H x B
  simp only [go_sem, l121_1, builtinA, hbox, h1, decide_true, h2, h3, h5, c1, c2, put_eq, w2, reduceEqDiff, Nat.reduceBEq, reduceAdd, reduceIte, reduceCtorEq, reduceLeDiff]
  refine call_ac (E := Es _ _) n137 hd (fun v S' hR => ?_) (fun v S' hR => ?_)
  ·obtain ⟨e, rfl⟩ := hR
   cases e
   simp only [go_sem, h4, reduceEqDiff, Nat.reduceBEq, reduceAdd, reduceIte, reduceCtorEq, reduceLeDiff]
   exact again_here (l.counts.length - (k + 1)) (by omega) ⟨k + 1, X ++ [some (.cells (cntC c))], h', rfl, rfl, by rw [hn']; rfl⟩
  ·obtain ⟨e, _⟩ := hR
   cases e
 ·have h1 : ¬ (k : Int) < l.counts.length := by omega
  have e : k = l.counts.length := by omega
  subst e
  rw [List.take_length] at *
  simp only [go_sem, l121_1, builtinA, hbox, h1, decide_false, Tryz.f121, reduceEqDiff, Nat.reduceBEq, reduceAdd, reduceIte, reduceCtorEq, reduceLeDiff]
  exact ⟨rfl, _, rfl⟩
end Go.Av.Fx
end
