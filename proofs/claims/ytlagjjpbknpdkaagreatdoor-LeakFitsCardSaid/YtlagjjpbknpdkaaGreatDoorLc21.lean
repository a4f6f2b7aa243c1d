/- Part 21 of the proof. -/
import Derived.Test.YtlagjjpbknpdkaaGreatDoorLc20
set_option linter.all false
set_option linter.unusedVariables false
set_option linter.unusedSimpArgs false
set_option linter.unusedSectionVars false
section
namespace Go.Av.Fx
open Go Go.Av Go.Av.Tb Go.Proofs
open Go.Fw (Sq ent Bd Mat)
theorem AC.of_iso {P : Program} {f : FuncId} {args : List AV} {Q Qp : AV → Prop} (h : AC P f args St.empty fun e _ => (∃ v, e = .ret v ∧ Q v) ∨ (∃ v, e = .panic v ∧ Qp v)) (ha : bndL 0 0 args = true) (hQ : ∀ v, Q v → v.bnd 0 0 = true) (hQp : ∀ v, Qp v → v.bnd 0 0 = true) (S : St) :
    AC P f args S fun e S' => ((∃ v, e = .ret v ∧ Q v) ∨ (∃ v, e = .panic v ∧ Qp v)) ∧ S' = S := by
  intro c w vs hs hl
  obtain ⟨cE, hE, eK, eμ, eτ, esz, eX, eXO, eB, eT, eF⟩ := hide hs
  refine (h cE w vs hE (hl.free ha fun b o u e => by rw [eK]; exact e)).mono fun e w' ⟨ae, S', c', h1, h2, h3, h4⟩ => ?_
  obtain ⟨g1, g2⟩ := unhide hs h1 h4 eK esz eX eXO eB eT hE (fun b o e => eF ▸ e) (by rw [eF])
  rcases h2 with ⟨v, rfl, hv⟩ | ⟨v, rfl, hv⟩
  · cases e with
    | returned x => exact ⟨.ret v, S, back c c', g1, ⟨.inl ⟨v, rfl, hv⟩, rfl⟩, VRel.free h3 (hQ v hv) (fun _ _ _ e => e), g2⟩
    | panicked ch => exact h3.elim
    | outgrown => exact h3.elim
  · cases e with
    | returned x => exact h3.elim
    | panicked ch =>
      obtain ⟨x, hx, hxv⟩ := h3
      exact ⟨.panic v, S, back c c', g1, ⟨.inr ⟨v, rfl, hv⟩, rfl⟩, ⟨x, hx, VRel.free hxv (hQp v hv) (fun _ _ _ e => e)⟩, g2⟩
    | outgrown => exact h3.elim
structure Truth where
  inflow : Int
  losses : List Int
abbrev trC (t : Truth) : List AV := [.int .i64 t.inflow, sl t.losses]
attribute [go_sem] trC
def lossBad (l : LLine) (n : Int) : Bool := decide (n ≠ 0) && !inB n l.least l.most
theorem isTruth1_pc (l : LLine) (n : Int) : PC Tryz.prog 149 [.int .i64 n, .eptr (lineC l) 0] (.pure (.bool (lossBad l n))) := by
  refine PC.of_empty (AC.run (E_ok _) mix Tryz.func149 m149 rfl rfl rfl (Nat.le_of_ble_eq_true rfl) ?_) (by simp [bndL, AV.bnd]) rfl
  unfold lossBad
  by_cases h : n ≠ 0
  · have hd : decide (n ≠ 0) = true := decide_eq_true h
    simp only [go_sem, hd, Nat.reduceEqDiff, Nat.reduceBEq, Nat.reduceAdd, reduceIte, reduceCtorEq, Nat.reduceLeDiff]
    refine cp n83 (in_pc _ _ _) (SubL.refl _) ?_
    rw [show (decide (n ≥ l.least) && decide (n ≤ l.most)) = inB n l.least l.most from rfl]
    simp only [go_sem, un_not, Tryz.f149, Bool.true_and, Nat.reduceEqDiff, Nat.reduceBEq, Nat.reduceAdd, reduceIte, reduceCtorEq, Nat.reduceLeDiff]
  · have hd : decide (n ≠ 0) = false := decide_eq_false h
    simp only [go_sem, hd, Tryz.f149, Bool.false_and, Nat.reduceEqDiff, Nat.reduceBEq, Nat.reduceAdd, reduceIte, reduceCtorEq, Nat.reduceLeDiff]
def truthB (l : LLine) (t : Truth) : Bool := inB t.inflow 0 400 && (decide ((t.losses.length : Int) = l.gives.length) && !t.losses.any (lossBad l))
theorem isTruth_pc (l : LLine) (t : Truth) (hl : okL t.losses.length) : PC Tryz.prog 115 [lineA l, .agg (trC t)] (.pure (.bool (truthB l t))) := by
  refine PC.of_empty (AC.run (E_ok _) mix Tryz.func115 m115 rfl rfl rfl (Nat.le_of_ble_eq_true rfl) ?_) (by simp [bndL, AV.bnd]) rfl
  unfold truthB
  simp only [go_sem, boxA, Nat.reduceEqDiff, Nat.reduceBEq, Nat.reduceAdd, reduceIte, reduceCtorEq, Nat.reduceLeDiff]
  refine cp n127 (isCups_pc _) (SubL.refl _) ?_
  rw [show (decide (t.inflow ≥ 0) && decide (t.inflow ≤ 400)) = inB t.inflow 0 400 from rfl]
  cases h1 : inB t.inflow 0 400
  · simp only [go_sem, Tryz.f115, Bool.false_and, Nat.reduceEqDiff, Nat.reduceBEq, Nat.reduceAdd, reduceIte, reduceCtorEq, Nat.reduceLeDiff]
  by_cases h2 : (t.losses.length : Int) = l.gives.length
  · simp only [go_sem, builtinA, h2, decide_true, Nat.reduceEqDiff, Nat.reduceBEq, Nat.reduceAdd, reduceIte, reduceCtorEq, Nat.reduceLeDiff]
    refine cl n123 (containsFunc_pc t.losses hl 149 n149 [.eptr (lineC l) 0] (by simp [bndL, AV.bnd]) (lossBad l) (fun x _ => isTruth1_pc l x)) (LntL.cons (.same _ (by simp [AV.bnd])) (LntL.cons (Lnt.func1 (.ptr 0 0 _ rfl (by simp [bndL, AV.bnd]))) (LntL.nil _))) rfl ?_
    simp only [go_sem, un_not, Tryz.f115, Bool.true_and, Nat.reduceEqDiff, Nat.reduceBEq, Nat.reduceAdd, reduceIte, reduceCtorEq, Nat.reduceLeDiff]
  · simp only [go_sem, builtinA, h2, decide_false, Tryz.f115, Bool.true_and, Bool.false_and, Nat.reduceEqDiff, Nat.reduceBEq, Nat.reduceAdd, reduceIte, reduceCtorEq, Nat.reduceLeDiff]
theorem follow1_pc (c : Cnt) (p flow : Int) : PC Tryz.prog 150 [.agg (cntC c), .eptr [.int .i64 p] 0, .eptr [.int .i64 flow] 0] (.pure (.bool (decide (c.point = p) && !inB flow c.low c.high))) := by
  refine PC.of_empty (AC.run (E_ok _) mix Tryz.func150 m150 rfl rfl rfl (Nat.le_of_ble_eq_true rfl) ?_) (by simp [bndL, AV.bnd]) rfl
  by_cases h : c.point = p
  · simp only [go_sem, boxA, h, decide_true, Nat.reduceEqDiff, Nat.reduceBEq, Nat.reduceAdd, reduceIte, reduceCtorEq, Nat.reduceLeDiff]
    refine cp n83 (in_pc _ _ _) (SubL.refl _) ?_
    rw [show (decide (flow ≥ c.low) && decide (flow ≤ c.high)) = inB flow c.low c.high from rfl]
    simp only [go_sem, un_not, Tryz.f150, Bool.true_and, Nat.reduceEqDiff, Nat.reduceBEq, Nat.reduceAdd, reduceIte, reduceCtorEq, Nat.reduceLeDiff]
  · simp only [go_sem, boxA, h, decide_false, Tryz.f150, Bool.false_and, Nat.reduceEqDiff, Nat.reduceBEq, Nat.reduceAdd, reduceIte, reduceCtorEq, Nat.reduceLeDiff]
def flowT (l : LLine) (t : Truth) : Nat → Int
  | 0 => t.inflow
  | p + 1 => flowT l t p - (l.gives.getD p 0 + t.losses.getD p 0)
def tappedT (t : Truth) : Nat → Nat
  | 0 => 0
  | p + 1 => if t.losses.getD p 0 > 0 then tappedT t p + 1 else tappedT t p
def wrongT (l : LLine) (t : Truth) (p : Nat) : Bool := l.counts.any fun c => decide (c.point = (p : Int)) && !inB (flowT l t p) c.low c.high
def badT (l : LLine) (t : Truth) (p : Nat) : Bool := decide (flowT l t p < 0) || (decide ((tappedT t p : Int) > l.taps) || wrongT l t p)
def fitsT (l : LLine) (t : Truth) : Bool := (List.range (l.gives.length + 1)).all fun p => !badT l t p
theorem truth_loss {l : LLine} (h : Ln l) {t : Truth} (ht : truthB l t = true) (i : Nat) : 0 ≤ t.losses.getD i 0 ∧ t.losses.getD i 0 ≤ 60 := by
  unfold truthB at ht
  simp only [Bool.and_eq_true, Bool.not_eq_true', List.any_eq_false] at ht
  have h3 := ht.2.2
  rw [List.getD_eq_getElem?_getD]
  cases hx : t.losses[i]? with
  | none => simp
  | some g =>
    have := h3 g (List.mem_of_getElem? hx)
    have h4 := h.least; have h5 := h.most
    simp only [Option.getD_some]
    by_cases hg : g = 0
    · subst hg; decide
    · simp [lossBad, hg, inB] at this
      omega
theorem flowT_bnd {l : LLine} (h : Ln l) {t : Truth} (ht : truthB l t = true) : ∀ p, p ≤ 1000 → -1000000 ≤ flowT l t p - -(120 * (p : Int)) ∧ flowT l t p ≤ 400
  | 0, _ => by
    unfold truthB at ht
    simp only [Bool.and_eq_true] at ht
    have := inB_iff.1 ht.1
    simp only [flowT]; omega
  | p + 1, hp => by
    have ih := flowT_bnd h ht p (by omega)
    have h1 := truth_loss h ht p
    have h2 := h.give p
    simp only [flowT]; omega
theorem tappedT_le (t : Truth) : ∀ p, tappedT t p ≤ p
  | 0 => Nat.le_refl _
  | p + 1 => by have := tappedT_le t p; unfold tappedT; split <;> omega
@[go_sem] theorem d174 : descOf T 174 = some ti174.desc := rfl
@[go_sem] theorem i174 : isIface ti174.desc = false := rfl
@[go_sem] theorem bd174 (a : Int) : buildA T 174 [(0, .int .i64 a)] = some (.agg [.int .i64 a]) := rfl
theorem follow_ac (l : LLine) (h : Ln l) (t : Truth) (ht : truthB l t = true) (S : St) : AC Tryz.prog 117 [lineA l, .agg (trC t)] S fun e S' =>
    ((∃ v, e = .ret v ∧ (fitsT l t = true ∧ v = .tuple [])) ∨ (∃ v, e = .panic v ∧ (fitsT l t = false ∧ ∃ p : Int, v = .iface 174 (.agg [.int .i64 p])))) ∧ S' = S := by
  refine AC.of_iso (Q := fun v => fitsT l t = true ∧ v = .tuple []) (Qp := fun v => fitsT l t = false ∧ ∃ p : Int, v = .iface 174 (.agg [.int .i64 p])) ?_ (by simp [bndL, AV.bnd]) (fun v hv => by rw [hv.2]; rfl) (fun v ⟨_, p, hv⟩ => by rw [hv]; rfl) S
  refine AC.run (E_ok _) mix Tryz.func117 m117 rfl rfl rfl (Nat.le_of_ble_eq_true rfl) ?_
  have hpts := h.pts
  have w0 : IntKind.i64.wrap ((l.gives.length : Int) + 1) = (l.gives.length + 1 : Nat) := wrap64 (by omega)
  simp only [go_sem, boxA, builtinA, w0, Nat.reduceEqDiff, Nat.reduceBEq, Nat.reduceAdd, reduceIte, reduceCtorEq, Nat.reduceLeDiff]
  refine wc_forGP (l.gives.length + 1) (fun p => ∀ q, q < p → badT l t q = false) (fun p => [(2, .ref 0 0), (3, .ref 1 0), (4, .ref 2 0), (5, .int .i64 (tappedT t (p - 1))), (13, .int .i64 (l.gives.length + 1 : Nat)), (14, .int .i64 p)])
    (fun p => ⟨[some (.cells (lineC l)), some (.cells (trC t)), some (.cells [.int .i64 (flowT l t (p - 1))])], 0, []⟩) (fun q hq => absurd hq (Nat.not_lt_zero _)) rfl rfl (fun k hk => ?_) ?_
  · refine ⟨Nat.zero_le _, Nat.zero_le _, by simp [bndTS, AV.bnd], fun i B hB => ?_, fun t ht => by cases ht⟩
    match i, hB with
    | 0, hB => simp at hB; subst hB; simp [Blk.bnd, bndL, AV.bnd]
    | 1, hB => simp at hB; subst hB; simp [Blk.bnd, bndL, AV.bnd]
    | 2, hB => simp at hB; subst hB; simp [Blk.bnd, bndL, AV.bnd]
    | i + 3, hB => simp at hB
  intro p hp hP I hI
  by_cases h' : p < l.gives.length + 1
  · have h1 : (p : Int) < (l.gives.length + 1 : Nat) := by omega
    have h6 : IntKind.i64.wrap ((p : Int) + 1) = (p + 1 : Nat) := wrap64 (by omega)
    have hI' := hI h'
    rw [Nat.add_sub_cancel] at hI'
    clear hI
    cases p with
    | zero =>
      have z : ¬ (((0 : Nat) : Int) > 0) := by decide
      rw [show (0 : Nat) - 1 = 0 from rfl]
      simp only [go_sem, l117_0, h1, decide_true, z, decide_false, Nat.reduceEqDiff, Nat.reduceBEq, Nat.reduceAdd, reduceIte, reduceCtorEq, Nat.reduceLeDiff]
      refine cl n125 (containsFuncC_pc l.counts h.ok.2 150 n150 [.eptr [.int .i64 (0 : Nat)] 0, .eptr [.int .i64 (flowT l t (0))] 0] (by simp [bndL, AV.bnd]) (fun c => decide (c.point = ((0 : Nat) : Int)) && !inB (flowT l t (0)) c.low c.high) (fun c _ => follow1_pc c _ _)) (LntL.cons (.same _ (by simp [AV.bnd])) (LntL.cons (Lnt.funcL (LntL.cons (.ptr 3 0 _ rfl rfl) (LntL.cons (.ptr 2 0 _ rfl rfl) (LntL.nil _)))) (LntL.nil _))) rfl ?_
      rw [show l.counts.any (fun c => decide (c.point = ((0 : Nat) : Int)) && !inB (flowT l t (0)) c.low c.high) = wrongT l t (0) from rfl]
      have hbad : badT l t (0) = true → fitsT l t = false := fun hb => by
        cases hx : fitsT l t
        · rfl
        · unfold fitsT at hx
          rw [List.all_eq_true] at hx
          have := hx (0) (List.mem_range.2 h')
          rw [hb] at this; cases this
      by_cases b1 : flowT l t (0) < 0
      · have hf := hbad (by unfold badT; rw [decide_eq_true b1]; rfl)
        simp only [go_sem, b1, decide_true, Nat.reduceEqDiff, Nat.reduceBEq, Nat.reduceAdd, reduceIte, reduceCtorEq, Nat.reduceLeDiff]
        exact .inr ⟨_, rfl, hf, _, rfl⟩
      by_cases b2 : (tappedT t (0) : Int) > l.taps
      · have hf := hbad (by unfold badT; rw [decide_eq_true b2]; simp)
        simp only [go_sem, b1, b2, decide_true, decide_false, Nat.reduceEqDiff, Nat.reduceBEq, Nat.reduceAdd, reduceIte, reduceCtorEq, Nat.reduceLeDiff]
        exact .inr ⟨_, rfl, hf, _, rfl⟩
      cases b3 : wrongT l t (0)
      · have hgood : badT l t (0) = false := by unfold badT; rw [decide_eq_false b1, decide_eq_false b2, b3]; rfl
        simp only [go_sem, b1, b2, decide_false, h6, Nat.reduceEqDiff, Nat.reduceBEq, Nat.reduceAdd, reduceIte, reduceCtorEq, Nat.reduceLeDiff]
        refine hI' (fun x hx => ?_) [_]
        by_cases e : x = 0
        · rw [e]; exact hgood
        · exact hP x (by omega)
      · have hf := hbad (by unfold badT; rw [b3]; simp)
        simp only [go_sem, b1, b2, decide_false, Nat.reduceEqDiff, Nat.reduceBEq, Nat.reduceAdd, reduceIte, reduceCtorEq, Nat.reduceLeDiff]
        exact .inr ⟨_, rfl, hf, _, rfl⟩
    | succ q =>
      have z : (((q + 1 : Nat) : Int) > 0) := by omega
      have z2 : IntKind.i64.wrap (((q + 1 : Nat) : Int) - 1) = (q : Nat) := by rw [wrap64 (by omega)]; omega
      have hll : (t.losses.length : Int) = l.gives.length := by
        unfold truthB at ht; simp only [Bool.and_eq_true, decide_eq_true_iff] at ht; exact ht.2.1
      have z3 : 0 ≤ (q : Int) ∧ (q : Int) < l.gives.length := by omega
      have z4 : 0 ≤ (q : Int) ∧ (q : Int) < t.losses.length := by omega
      have z5 : l.gives[q]? = some (l.gives.getD q 0) := by rw [getD_at 0 (by omega), List.getElem?_eq_getElem]
      have z6 : t.losses[q]? = some (t.losses.getD q 0) := by rw [getD_at 0 (by omega), List.getElem?_eq_getElem]
      have hfb := flowT_bnd h ht q (by omega)
      have hg1 := h.give q
      have hg2 := truth_loss h ht q
      rw [Nat.add_sub_cancel]
      simp only [go_sem, l117_0, h1, decide_true, z, z2, z3, z4, z5, z6, ints_get, Nat.reduceEqDiff, Nat.reduceBEq, Nat.reduceAdd, reduceIte, reduceCtorEq, Nat.reduceLeDiff]
      refine qp n130 (sum_pc [l.gives.getD q 0, t.losses.getD q 0] (by show 2 < 9223372036854775807; decide)) (SubL.cons (Sub.unk _ 2 .exact) (SubL.refl [])) ?_
      rw [show List.foldl (fun a b => IntKind.i64.wrap (a + b)) 0 [l.gives.getD q 0, t.losses.getD q 0] = l.gives.getD q 0 + t.losses.getD q 0 from sumW2 (by omega) (by omega)]
      have z7 : IntKind.i64.wrap (flowT l t q - (l.gives.getD q 0 + t.losses.getD q 0)) = flowT l t (q + 1) := by rw [wrap64 (by omega)]; rfl
      have htq : tappedT t q ≤ q := tappedT_le t q
      have z8 : IntKind.i64.wrap ((tappedT t q : Int) + 1) = (tappedT t q + 1 : Nat) := wrap64 (by omega)
      by_cases hpos : t.losses.getD q 0 > 0
      · have ht1 : tappedT t (q + 1) = tappedT t q + 1 := by show (if t.losses.getD q 0 > 0 then tappedT t q + 1 else tappedT t q) = _; rw [if_pos hpos]
        simp only [go_sem, z2, z4, z6, z7, ints_get, hpos, decide_true, z8, Nat.reduceEqDiff, Nat.reduceBEq, Nat.reduceAdd, reduceIte, reduceCtorEq, Nat.reduceLeDiff]
        rw [← ht1]
        refine cl n125 (containsFuncC_pc l.counts h.ok.2 150 n150 [.eptr [.int .i64 (q + 1 : Nat)] 0, .eptr [.int .i64 (flowT l t (q + 1))] 0] (by simp [bndL, AV.bnd]) (fun c => decide (c.point = ((q + 1 : Nat) : Int)) && !inB (flowT l t (q + 1)) c.low c.high) (fun c _ => follow1_pc c _ _)) (LntL.cons (.same _ (by simp [AV.bnd])) (LntL.cons (Lnt.funcL (LntL.cons (.ptr 3 0 _ rfl rfl) (LntL.cons (.ptr 2 0 _ rfl rfl) (LntL.nil _)))) (LntL.nil _))) rfl ?_
        rw [show l.counts.any (fun c => decide (c.point = ((q + 1 : Nat) : Int)) && !inB (flowT l t (q + 1)) c.low c.high) = wrongT l t (q + 1) from rfl]
        have hbad : badT l t (q + 1) = true → fitsT l t = false := fun hb => by
          cases hx : fitsT l t
          · rfl
          · unfold fitsT at hx
            rw [List.all_eq_true] at hx
            have := hx (q + 1) (List.mem_range.2 h')
            rw [hb] at this; cases this
        by_cases b1 : flowT l t (q + 1) < 0
        · have hf := hbad (by unfold badT; rw [decide_eq_true b1]; rfl)
          simp only [go_sem, b1, decide_true, Nat.reduceEqDiff, Nat.reduceBEq, Nat.reduceAdd, reduceIte, reduceCtorEq, Nat.reduceLeDiff]
          exact .inr ⟨_, rfl, hf, _, rfl⟩
        by_cases b2 : (tappedT t (q + 1) : Int) > l.taps
        · have hf := hbad (by unfold badT; rw [decide_eq_true b2]; simp)
          simp only [go_sem, b1, b2, decide_true, decide_false, Nat.reduceEqDiff, Nat.reduceBEq, Nat.reduceAdd, reduceIte, reduceCtorEq, Nat.reduceLeDiff]
          exact .inr ⟨_, rfl, hf, _, rfl⟩
        cases b3 : wrongT l t (q + 1)
        · have hgood : badT l t (q + 1) = false := by unfold badT; rw [decide_eq_false b1, decide_eq_false b2, b3]; rfl
          simp only [go_sem, b1, b2, decide_false, h6, Nat.reduceEqDiff, Nat.reduceBEq, Nat.reduceAdd, reduceIte, reduceCtorEq, Nat.reduceLeDiff]
          refine hI' (fun x hx => ?_) [_]
          by_cases e : x = q + 1
          · rw [e]; exact hgood
          · exact hP x (by omega)
        · have hf := hbad (by unfold badT; rw [b3]; simp)
          simp only [go_sem, b1, b2, decide_false, Nat.reduceEqDiff, Nat.reduceBEq, Nat.reduceAdd, reduceIte, reduceCtorEq, Nat.reduceLeDiff]
          exact .inr ⟨_, rfl, hf, _, rfl⟩
      · have ht1 : tappedT t (q + 1) = tappedT t q := by show (if t.losses.getD q 0 > 0 then tappedT t q + 1 else tappedT t q) = _; rw [if_neg hpos]
        simp only [go_sem, z2, z4, z6, z7, ints_get, hpos, decide_false, z8, Nat.reduceEqDiff, Nat.reduceBEq, Nat.reduceAdd, reduceIte, reduceCtorEq, Nat.reduceLeDiff]
        rw [← ht1]
        refine cl n125 (containsFuncC_pc l.counts h.ok.2 150 n150 [.eptr [.int .i64 (q + 1 : Nat)] 0, .eptr [.int .i64 (flowT l t (q + 1))] 0] (by simp [bndL, AV.bnd]) (fun c => decide (c.point = ((q + 1 : Nat) : Int)) && !inB (flowT l t (q + 1)) c.low c.high) (fun c _ => follow1_pc c _ _)) (LntL.cons (.same _ (by simp [AV.bnd])) (LntL.cons (Lnt.funcL (LntL.cons (.ptr 3 0 _ rfl rfl) (LntL.cons (.ptr 2 0 _ rfl rfl) (LntL.nil _)))) (LntL.nil _))) rfl ?_
        rw [show l.counts.any (fun c => decide (c.point = ((q + 1 : Nat) : Int)) && !inB (flowT l t (q + 1)) c.low c.high) = wrongT l t (q + 1) from rfl]
        have hbad : badT l t (q + 1) = true → fitsT l t = false := fun hb => by
          cases hx : fitsT l t
          · rfl
          · unfold fitsT at hx
            rw [List.all_eq_true] at hx
            have := hx (q + 1) (List.mem_range.2 h')
            rw [hb] at this; cases this
        by_cases b1 : flowT l t (q + 1) < 0
        · have hf := hbad (by unfold badT; rw [decide_eq_true b1]; rfl)
          simp only [go_sem, b1, decide_true, Nat.reduceEqDiff, Nat.reduceBEq, Nat.reduceAdd, reduceIte, reduceCtorEq, Nat.reduceLeDiff]
          exact .inr ⟨_, rfl, hf, _, rfl⟩
        by_cases b2 : (tappedT t (q + 1) : Int) > l.taps
        · have hf := hbad (by unfold badT; rw [decide_eq_true b2]; simp)
          simp only [go_sem, b1, b2, decide_true, decide_false, Nat.reduceEqDiff, Nat.reduceBEq, Nat.reduceAdd, reduceIte, reduceCtorEq, Nat.reduceLeDiff]
          exact .inr ⟨_, rfl, hf, _, rfl⟩
        cases b3 : wrongT l t (q + 1)
        · have hgood : badT l t (q + 1) = false := by unfold badT; rw [decide_eq_false b1, decide_eq_false b2, b3]; rfl
          simp only [go_sem, b1, b2, decide_false, h6, Nat.reduceEqDiff, Nat.reduceBEq, Nat.reduceAdd, reduceIte, reduceCtorEq, Nat.reduceLeDiff]
          refine hI' (fun x hx => ?_) [_]
          by_cases e : x = q + 1
          · rw [e]; exact hgood
          · exact hP x (by omega)
        · have hf := hbad (by unfold badT; rw [b3]; simp)
          simp only [go_sem, b1, b2, decide_false, Nat.reduceEqDiff, Nat.reduceBEq, Nat.reduceAdd, reduceIte, reduceCtorEq, Nat.reduceLeDiff]
          exact .inr ⟨_, rfl, hf, _, rfl⟩
  · have h1 : ¬ (p : Int) < (l.gives.length + 1 : Nat) := by omega
    have hf : fitsT l t = true := by
      unfold fitsT; rw [List.all_eq_true]; intro q hq
      rw [hP q (by have := List.mem_range.1 hq; omega)]; rfl
    simp only [go_sem, l117_0, h1, decide_false, Tryz.f117, Nat.reduceEqDiff, Nat.reduceBEq, Nat.reduceAdd, reduceIte, reduceCtorEq, Nat.reduceLeDiff]
    exact .inl ⟨_, rfl, hf, rfl⟩
end Go.Av.Fx
end
section
namespace Go.Av.Fx
open Go Go.Av Go.Av.Tb Go.Proofs
open Go.Fw (Sq ent Bd Mat)
noncomputable def Ek (n : Nat) (S : St) : Env := { E n with base := S.heap.length, bt := S.nt, K := false }
theorem Ek_ok (n : Nat) (S : St) : (Ek n S).Ok := ⟨(E_ok n).T, (E_ok n).M, (E_ok n).Cle, (E_ok n).Y⟩
@[go_sem] theorem Ek_T (n : Nat) (S : St) : (Ek n S).T = T := rfl
@[go_sem] theorem Ek_P (n : Nat) (S : St) : (Ek n S).P = Tryz.prog := rfl
@[go_sem] theorem from_T (E : Env) (S : St) : (E.from S).T = E.T := rfl
@[go_sem] theorem from_P (E : Env) (S : St) : (E.from S).P = E.P := rfl
@[go_sem] theorem eqn20 : binA T .eql 20 .nilIface .nilIface = some (.bool true) := rfl
@[go_sem] theorem eqi20 (t : TypeId) (v : AV) : binA T .eql 20 (.iface t v) .nilIface = some (.bool false) := rfl
@[go_sem] theorem ta174 (v : AV) : typeAssertA T (.iface 174 v) 174 true = some (.tuple [v, .bool true]) := rfl
@[go_sem] theorem ta174n (v : AV) : typeAssertA T (.iface 176 v) 174 true = some (.tuple [.agg [.int .i64 0], .bool false]) := rfl
@[go_sem] theorem ta176 (v : AV) : typeAssertA T (.iface 176 v) 176 true = some (.tuple [v, .bool true]) := rfl
def c141t : MC := (.block 0 (.seq (.region [0, 5, 7] r141_3) (.cond (.tmp 7) (.region [] r141_4) (.seq (.region [0, 5, 9, 10] r141_5) (.cond (.tmp 9) (.seq (.region [0] r141_6) (.region [] r141_7)) (.seq (.region [0, 5, 12, 13] r141_8) (.cond (.tmp 12) (.seq (.region [0] r141_9) (.region [] r141_10)) (.seq (.region [4] r141_1) (.region [] r141_2)))))))))
def caught (b : Nat) (k : Int) (x : AV) (S : St) : St := ⟨setH (S.heap ++ [some (.cells x.cells)]) b (.cells [.int .i64 k]), S.nt, S.toks⟩
theorem cellsAt_app {h : List (Option Blk)} {b : Nat} {l : List AV} (hb : cellsAt h b = some l) (g : List (Option Blk)) : cellsAt (h ++ g) b = some l := by
  unfold cellsAt at hb ⊢
  have : b < h.length := by
    rcases Nat.lt_or_ge b h.length with h' | h'
    · exact h'
    · rw [List.getElem?_eq_none h'] at hb; cases hb
  rw [List.getElem?_append_left this]; exact hb
theorem cellsAt_end (h : List (Option Blk)) (l : List AV) : cellsAt (h ++ [some (.cells l)]) h.length = some l := by
  unfold cellsAt; rw [List.getElem?_append_right (Nat.le_refl _), Nat.sub_self]; rfl
theorem setH_end (h : List (Option Blk)) (x : Option Blk) (B : Blk) : setH (h ++ [x]) h.length B = h ++ [some B] := by
  have := setH_app h [x] 0 B
  rw [Nat.add_zero] at this; rw [this]; rfl
theorem try1_none (b : Nat) (S : St) : DC Tryz.prog 141 [.ref b 0] none S fun S' => S' = S := by
  refine DC.run (E := Ek 14 S) (Ek_ok 14 S) mix (fn := Tryz.f141) (mc := c141t) (d := 5) (ks := lk [(0, [0, 5]), (1, [4]), (2, []), (3, [0, 5, 7]), (4, []), (5, [0, 5, 9, 10]), (6, [0]), (7, []), (8, [0, 5, 12, 13]), (9, [0]), (10, [])]) (dm := lk1 []) Tryz.func141 rfl rfl rfl rfl (by kernel_rfl) rfl rfl (Nat.le_of_ble_eq_true rfl) (show 5 < 14 by decide) rfl rfl rfl (fun _ => trivial) rfl ?_
  simp only [go_sem, c141t, Option.getD_none, Nat.reduceEqDiff, Nat.reduceBEq, Nat.reduceAdd, reduceIte, reduceCtorEq, Nat.reduceLeDiff]
theorem try1_174 (b : Nat) (S : St) (p : Int) (hb : cellsAt S.heap b = some [.int .i64 0]) : DC Tryz.prog 141 [.ref b 0] (some (.iface 174 (.agg [.int .i64 p]))) S fun S' => S' = caught b 7 (.agg [.int .i64 p]) S := by
  refine DC.run (E := Ek 14 S) (Ek_ok 14 S) mix (fn := Tryz.f141) (mc := c141t) (d := 5) (ks := lk [(0, [0, 5]), (1, [4]), (2, []), (3, [0, 5, 7]), (4, []), (5, [0, 5, 9, 10]), (6, [0]), (7, []), (8, [0, 5, 12, 13]), (9, [0]), (10, [])]) (dm := lk1 []) Tryz.func141 rfl rfl rfl rfl (by kernel_rfl) rfl rfl (Nat.le_of_ble_eq_true rfl) (show 5 < 14 by decide) rfl rfl rfl (fun _ => trivial) rfl ?_
  have h1 : ∀ g, cellsAt (S.heap ++ g) b = some [.int .i64 0] := cellsAt_app hb
  have h2 := cellsAt_end S.heap
  have h3 := setH_end S.heap
  simp only [go_sem, c141t, Option.getD_some, extractA, put_eq, h1, h2, h3, Nat.reduceEqDiff, Nat.reduceBEq, Nat.reduceAdd, reduceIte, reduceCtorEq, Nat.reduceLeDiff]
  rfl
theorem try1_176 (b : Nat) (S : St) (p : ByteArray) (hb : cellsAt S.heap b = some [.int .i64 0]) : DC Tryz.prog 141 [.ref b 0] (some (.iface 176 (.agg [.str p]))) S fun S' => S' = caught b 4 (.agg [.str p]) S := by
  refine DC.run (E := Ek 14 S) (Ek_ok 14 S) mix (fn := Tryz.f141) (mc := c141t) (d := 5) (ks := lk [(0, [0, 5]), (1, [4]), (2, []), (3, [0, 5, 7]), (4, []), (5, [0, 5, 9, 10]), (6, [0]), (7, []), (8, [0, 5, 12, 13]), (9, [0]), (10, [])]) (dm := lk1 []) Tryz.func141 rfl rfl rfl rfl (by kernel_rfl) rfl rfl (Nat.le_of_ble_eq_true rfl) (show 5 < 14 by decide) rfl rfl rfl (fun _ => trivial) rfl ?_
  have h1 : ∀ g, cellsAt (S.heap ++ g) b = some [.int .i64 0] := cellsAt_app hb
  have h2 := cellsAt_end S.heap
  have h3 := setH_end S.heap
  simp only [go_sem, c141t, Option.getD_some, extractA, put_eq, h1, h2, h3, Nat.reduceEqDiff, Nat.reduceBEq, Nat.reduceAdd, reduceIte, reduceCtorEq, Nat.reduceLeDiff]
  rfl
theorem DC.mono {P : Program} {g : FuncId} {caps : List AV} {pan : Option AV} {S : St} {R R' : St → Prop} (h : DC P g caps pan S R) (hr : ∀ S', R S' → R' S') : DC P g caps pan S R' :=
  fun c w vs u h1 h2 h3 => (h c w vs u h1 h2 h3).mono fun e u' w' ⟨a1, a2, S', c', a3, a4, a5⟩ => ⟨a1, a2, S', c', a3, hr _ a4, a5⟩
@[go_sem] theorem endQ_ret (E : Env) (rs : List ResultVar) (g : FuncId) (caps : List AV) (R : AEnd → St → Prop) (ts : TS) (S : St) : endQ E rs g caps R .ret ts S = DC E.P g caps none S fun S2 => ∃ vs, resA E.T S2 ts rs = some vs ∧ R (.ret (tupA vs)) S2 := rfl
@[go_sem] theorem endQ_panic (E : Env) (rs : List ResultVar) (g : FuncId) (caps : List AV) (R : AEnd → St → Prop) (v : AV) (ts : TS) (S : St) : endQ E rs g caps R (.panic v) ts S = DC E.P g caps (some v) S fun S2 => ∃ vs, resA E.T S2 ts rs = some vs ∧ R (.ret (tupA vs)) S2 := rfl
theorem setH_same : ∀ {h : List (Option Blk)} {b : Nat} {l : List AV}, cellsAt h b = some l → setH h b (.cells l) = h
  | [], b, l, h => by simp [cellsAt] at h
  | x :: h, 0, l, e => by
    simp only [cellsAt, List.getElem?_cons_zero] at e
    show some (.cells l) :: h = _
    split at e
    · rename_i q hq
      simp only [Option.some.injEq] at hq e; subst e; rw [hq]
    · cases e
  | x :: h, b + 1, l, e => by
    show x :: setH h b _ = _
    rw [setH_same (h := h) (b := b) (l := l) (by simpa [cellsAt] using e)]
theorem cellsAt_set {h : List (Option Blk)} {b : Nat} {l l' : List AV} (hb : cellsAt h b = some l) (g : List (Option Blk)) : cellsAt (setH (h ++ g) b (.cells l')) b = some l' := by
  have hlt : b < h.length := by
    unfold cellsAt at hb
    rcases Nat.lt_or_ge b h.length with h' | h'
    · exact h'
    · rw [List.getElem?_eq_none h'] at hb; cases hb
  have : ∀ (h : List (Option Blk)) (b : Nat), b < h.length → cellsAt (setH h b (.cells l')) b = some l' := by
    intro h
    induction h with
    | nil => intro b hb; simp at hb
    | cons x h ih =>
      intro b hb
      cases b with
      | zero => rfl
      | succ b =>
        have := ih b (by simpa using hb)
        simpa [cellsAt, setH] using this
  exact this _ _ (by simp; omega)
theorem try_ac {S : St} {g : FuncId} {caps : List AV} {R0 R : AEnd → St → Prop} (ng : Callable Tryz.prog g) (hdo : AC Tryz.prog g caps ⟨S.heap ++ [some (.cells [.int .i64 0])], S.nt, S.toks⟩ R0)
    (hret : ∀ v S', R0 (.ret v) S' → cellsAt S'.heap S.heap.length = some [.int .i64 0] ∧ R (.ret (.int .i64 0)) S')
    (hpan : ∀ v S', R0 (.panic v) S' → cellsAt S'.heap S.heap.length = some [.int .i64 0] ∧ ((∃ p : Int, v = .iface 174 (.agg [.int .i64 p]) ∧ R (.ret (.int .i64 7)) (caught S.heap.length 7 (.agg [.int .i64 p]) S')) ∨ (∃ s : ByteArray, v = .iface 176 (.agg [.str s]) ∧ R (.ret (.int .i64 4)) (caught S.heap.length 4 (.agg [.str s]) S')))) :
    AC Tryz.prog 108 [.func (.func g) [] caps] S R := by
  refine AC.deferring (E := Ek 6 S) (Ek_ok 6 S) mix (fn := Tryz.f108) (t := 3) (ma := .region [0, 2] r108_0) (mx := .seq (.region [2] r108_2) (.seq (.region [2] r108_3) .ret)) (ks := lk [(0, [0, 2]), (1, [0, 2]), (2, [2]), (3, [2])]) (dm := lk1 []) Tryz.func108 rfl rfl rfl rfl rfl rfl (by kernel_rfl) (by kernel_rfl) rfl (show 3 < 6 by decide) rfl rfl (Nat.le_of_ble_eq_true rfl) rfl (fun _ => trivial) rfl ?_
  simp only [go_sem, Nat.reduceEqDiff, Nat.reduceBEq, Nat.reduceAdd, reduceIte, reduceCtorEq, Nat.reduceLeDiff]
  refine ⟨141, [.ref S.heap.length 0], rfl, n141, ?_⟩
  refine call_ac (E := (Ek 6 S).from _) ng hdo ?_ ?_
  · intro v S' hR
    obtain ⟨h1, h2⟩ := hret v S' hR
    have h3 := setH_same h1
    simp only [go_sem, h1, put_eq, h3, Tryz.f108, Nat.reduceEqDiff, Nat.reduceBEq, Nat.reduceAdd, reduceIte, reduceCtorEq, Nat.reduceLeDiff]
    refine DC.mono (try1_none _ _) fun S2 e => ?_
    subst e
    exact ⟨[.int .i64 0], by simp only [go_sem, h1, Nat.reduceEqDiff, Nat.reduceBEq, Nat.reduceAdd, reduceIte, reduceCtorEq, Nat.reduceLeDiff], h2⟩
  · intro v S' hR
    obtain ⟨h1, h2⟩ := hpan v S' hR
    rcases h2 with ⟨p, rfl, h2⟩ | ⟨p, rfl, h2⟩
    · refine DC.mono (try1_174 _ _ p h1) fun S2 e => ?_
      subst e
      have hcs : cellsAt (caught S.heap.length 7 (.agg [.int .i64 p]) S').heap S.heap.length = some [.int .i64 7] := cellsAt_set h1 _
      exact ⟨[.int .i64 7], by simp only [go_sem, Tryz.f108, hcs, Nat.reduceEqDiff, Nat.reduceBEq, Nat.reduceAdd, reduceIte, reduceCtorEq, Nat.reduceLeDiff], h2⟩
    · refine DC.mono (try1_176 _ _ p h1) fun S2 e => ?_
      subst e
      have hcs : cellsAt (caught S.heap.length 4 (.agg [.str p]) S').heap S.heap.length = some [.int .i64 4] := cellsAt_set h1 _
      exact ⟨[.int .i64 4], by simp only [go_sem, Tryz.f108, hcs, Nat.reduceEqDiff, Nat.reduceBEq, Nat.reduceAdd, reduceIte, reduceCtorEq, Nat.reduceLeDiff], h2⟩
theorem Fits1_ac (l : LLine) (h : Ln l) (t : Truth) (ht : truthB l t = true) (S : St) (h0 : cellsAt S.heap 0 = some (lineC l)) (h1 : cellsAt S.heap 1 = some (trC t)) : AC Tryz.prog 116 [.ref 0 0, .ref 1 0] S fun e S' =>
    ((e = .ret (.tuple []) ∧ fitsT l t = true) ∨ (∃ p : Int, e = .panic (.iface 174 (.agg [.int .i64 p])) ∧ fitsT l t = false)) ∧ S' = S := by
  refine AC.run (Es_ok 5 S) mix Tryz.func116 m116 rfl rfl rfl (Nat.le_of_ble_eq_true rfl) ?_
  simp only [go_sem, h0, h1, Nat.reduceEqDiff, Nat.reduceBEq, Nat.reduceAdd, reduceIte, reduceCtorEq, Nat.reduceLeDiff]
  refine call_ac (E := Es 5 S) n117 (follow_ac l h t ht S) ?_ ?_
  · rintro v S' ⟨⟨v', hv, hf, rfl⟩ | ⟨v', hv, _⟩, rfl⟩
    · cases hv
      simp only [go_sem, Tryz.f116, Nat.reduceEqDiff, Nat.reduceBEq, Nat.reduceAdd, reduceIte, reduceCtorEq, Nat.reduceLeDiff]
      exact ⟨.inl ⟨rfl, hf⟩, trivial⟩
    · cases hv
  · rintro v S' ⟨⟨v', hv, _⟩ | ⟨v', hv, hf, p, rfl⟩, rfl⟩
    · cases hv
    · cases hv
      exact ⟨.inr ⟨p, rfl, hf⟩, rfl⟩
def fitsA (l : LLine) (t : Truth) : AV := if isLineB l = true then (if truthB l t = true then .tuple [.bool (fitsT l t), .int .i64 0] else .tuple [.bool false, .int .i64 2]) else .tuple [.bool false, .int .i64 2]
theorem fitsA_bnd (l : LLine) (t : Truth) : (fitsA l t).bnd 0 0 = true := by
  unfold fitsA
  repeat' split
  all_goals rfl
theorem Fits_pc (l : LLine) (ok : okLine l) (t : Truth) (hl : okL t.losses.length) : PC Tryz.prog 66 [lineA l, .agg (trC t)] (.pure (fitsA l t)) := by
  refine PC.of_empty (AC.run (E_ok _) mix Tryz.func66 m66 rfl rfl rfl (Nat.le_of_ble_eq_true rfl) ?_) (by simp [bndL, AV.bnd]) (fitsA_bnd l t)
  unfold fitsA
  simp only [go_sem, boxA, Nat.reduceEqDiff, Nat.reduceBEq, Nat.reduceAdd, reduceIte, reduceCtorEq, Nat.reduceLeDiff]
  refine cp n82 (isLine_pc l ok) (SubL.refl _) ?_
  cases h : isLineB l
  · simp only [go_sem, un_not, Bool.not_false, Tryz.f66, Nat.reduceEqDiff, Nat.reduceBEq, Nat.reduceAdd, reduceIte, reduceCtorEq, Nat.reduceLeDiff]
  · simp only [go_sem, un_not, Bool.not_true, Nat.reduceEqDiff, Nat.reduceBEq, Nat.reduceAdd, reduceIte, reduceCtorEq, Nat.reduceLeDiff]
    refine cp n115 (isTruth_pc l t hl) (SubL.refl _) ?_
    cases ht : truthB l t
    · simp only [go_sem, un_not, Bool.not_false, Tryz.f66, Nat.reduceEqDiff, Nat.reduceBEq, Nat.reduceAdd, reduceIte, reduceCtorEq, Nat.reduceLeDiff]
    · simp only [go_sem, un_not, Bool.not_true, Nat.reduceEqDiff, Nat.reduceBEq, Nat.reduceAdd, reduceIte, reduceCtorEq, Nat.reduceLeDiff]
      refine cac n108 (try_ac (R0 := fun e S' => ((e = .ret (.tuple []) ∧ fitsT l t = true) ∨ (∃ p : Int, e = .panic (.iface 174 (.agg [.int .i64 p])) ∧ fitsT l t = false)) ∧ S' = _) (R := fun e S' => ∃ k : Int, e = .ret (.int .i64 k) ∧ decide (k = 0) = fitsT l t) n116 (Fits1_ac l (isLine_iff.1 h) t ht _ rfl rfl) ?_ ?_) ?_ ?_
      · rintro v S' ⟨⟨hv, hf⟩ | ⟨p, hv, _⟩, rfl⟩
        · exact ⟨rfl, 0, rfl, by rw [hf]; rfl⟩
        · cases hv
      · rintro v S' ⟨⟨hv, hf⟩ | ⟨p, hv, hf⟩, rfl⟩
        · cases hv
        · cases hv
          exact ⟨rfl, .inl ⟨p, rfl, 7, rfl, by rw [hf]; rfl⟩⟩
      · rintro v S' ⟨k, hv, hk⟩
        cases hv
        simp only [go_sem, hk, Tryz.f66, Nat.reduceEqDiff, Nat.reduceBEq, Nat.reduceAdd, reduceIte, reduceCtorEq, Nat.reduceLeDiff]
      · rintro v S' ⟨k, hv, hk⟩
        cases hv
end Go.Av.Fx
end
section
namespace Go.Av.Fx
open Go Go.Av Go.Av.Tb Go.Proofs
open Go.Fw (Sq ent Bd Mat)
def rowsO (off m n : Nat) : List AV := (List.range m).map fun i => .sref (off + i) 0 n n
@[simp] theorem rowsO_len (off m n : Nat) : (rowsO off m n).length = m := by simp [rowsO]
theorem rowsO_get {off m n i : Nat} (h : i < m) : (rowsO off m n)[i]? = some (.sref (off + i) 0 n n) := by
  simp [rowsO, List.getElem?_range h]
theorem rowsO_snoc (off m n : Nat) : rowsO off m n ++ [.sref (off + m) 0 n n] = rowsO off (m + 1) n := by simp [rowsO, List.range_succ]
abbrev gA (off n : Nat) : AV := .slice (rowsO off n n) n .unk
theorem cells_mid {A C : List (Option Blk)} {V : Mat} {n : Nat} (h : Sq n V) {a : Nat} (ha : a < n) {off : Nat} (ho : A.length = off) : cellsAt (A ++ (heapR V ++ C)) (off + a) = some (ints (V.getD a [])) := by
  subst ho
  have hl : a < V.length := by rw [h.1]; exact ha
  unfold cellsAt
  rw [List.getElem?_append_right (by omega), Nat.add_sub_cancel_left, heapR_get hl, List.getD_eq_getElem?_getD, List.getElem?_eq_getElem hl]; rfl
theorem setH_mid {A C : List (Option Blk)} {V : Mat} {n : Nat} (h : Sq n V) {a : Nat} (ha : a < n) {off : Nat} (ho : A.length = off) (b : Nat) (v : Int) :
    setH (A ++ (heapR V ++ C)) (off + a) (.cells ((ints (V.getD a [])).set b (.int .i64 v))) = A ++ (heapR (Fw.put V a b v) ++ C) := by
  subst ho
  have hl : a < V.length := by rw [h.1]; exact ha
  rw [setH_app, ints_set, setH_R hl]; rfl
theorem differ_ac {A C : List (Option Blk)} {V : Mat} {n : Nat} (h : Sq n V) {off : Nat} (ho : A.length = off) {to frm : Nat} (ht : to < n) (hf : frm < n) (lo hi : Int) (hlo : IntKind.i64.wrap (0 - lo) = -lo) (nt : Nat) (toks : List Nat) :
    AC Tryz.prog 137 [gA off n, .int .i64 to, .int .i64 frm, .int .i64 lo, .int .i64 hi] ⟨A ++ (heapR V ++ C), nt, toks⟩ fun e S' => e = .ret (.tuple []) ∧ S' = ⟨A ++ (heapR (Fw.addc (Fw.addc V ⟨frm, to, hi⟩) ⟨to, frm, -lo⟩) ++ C), nt, toks⟩ := by
  refine AC.run (Es_ok _ _) mix Tryz.func137 m137 rfl rfl rfl (Nat.le_of_ble_eq_true rfl) ?_
  have xa : 0 ≤ (frm : Int) ∧ (frm : Int) < (n : Int) := by omega
  have xb : 0 ≤ (to : Int) ∧ (to : Int) < (n : Int) := by omega
  have ra := rowsO_get (off := off) (n := n) hf
  have rb := rowsO_get (off := off) (n := n) ht
  have k1 : to + 1 ≤ n := by omega
  have k2 : frm + 1 ≤ n := by omega
  have c1 := cells_mid (C := C) h hf ho
  have e1 := ints_ent h hf ht
  have l1 := h.getD hf
  have s1 : setH (A ++ (heapR V ++ C)) (off + frm) (.cells ((ints (V.getD frm [])).set to (.int .i64 (if hi < ent V frm to then hi else ent V frm to)))) = A ++ (heapR (Fw.addc V ⟨frm, to, hi⟩) ++ C) := by
    rw [setH_mid h hf ho, show (if hi < ent V frm to then hi else ent V frm to) = min (ent V frm to) hi by omega]; rfl
  have h2 : Sq n (Fw.addc V ⟨frm, to, hi⟩) := h.put _ _ _
  generalize Fw.addc V ⟨frm, to, hi⟩ = V2 at *
  have c2 := cells_mid (C := C) h2 ht ho
  have e2 := ints_ent h2 ht hf
  have l2 := h2.getD ht
  have s2 : setH (A ++ (heapR V2 ++ C)) (off + to) (.cells ((ints (V2.getD to [])).set frm (.int .i64 (if -lo < ent V2 to frm then -lo else ent V2 to frm)))) = A ++ (heapR (Fw.addc V2 ⟨to, frm, -lo⟩) ++ C) := by
    rw [setH_mid h2 ht ho, show (if -lo < ent V2 to frm then -lo else ent V2 to frm) = min (ent V2 to frm) (-lo) by omega]; rfl
  simp only [go_sem, xa, ra, xb, c1, e1, k1, l1, s1, nat_idx, Nat.mul_one, and_self, builtinA, minsA, AV.cells, AV.one, List.all_cons, List.all_nil, Bool.and_self, splice, ints_len, put_eq, Nat.reduceEqDiff, Nat.reduceBEq, Nat.reduceAdd, reduceIte, reduceCtorEq, Nat.reduceLeDiff]
  simp only [go_sem, xa, rb, xb, c2, e2, k2, l2, s2, nat_idx, Nat.mul_one, and_self, builtinA, minsA, AV.cells, AV.one, List.all_cons, List.all_nil, Bool.and_self, splice, ints_len, put_eq, unA, hlo, Tryz.f137, Nat.reduceEqDiff, Nat.reduceBEq, Nat.reduceAdd, reduceIte, reduceCtorEq, Nat.reduceLeDiff]
  exact ⟨rfl, trivial⟩
end Go.Av.Fx
end
section
namespace Go.Av.Fx
open Go Go.Av Go.Av.Tb Go.Proofs
open Go.Fw (Sq ent Bd Mat)
def begE (i k : Nat) : Int := if 0 < i ∧ k = 0 then 0 else if k = i then 0 else 400
def begRow (n i : Nat) : List Int := (List.range n).map (begE i)
def begP (n i j : Nat) : List Int := (List.range n).map fun q => if q < j then begE i q else 0
theorem begP_zero (n i : Nat) : begP n i 0 = List.replicate n 0 := by
  unfold begP
  simp only [Nat.not_lt_zero, if_false]
  rw [List.map_const', List.length_range]
theorem begP_full (n i : Nat) : begP n i n = begRow n i := by
  unfold begP begRow
  refine List.map_congr_left fun q hq => ?_
  rw [if_pos (List.mem_range.1 hq)]
@[simp] theorem begP_len (n i j : Nat) : (begP n i j).length = n := by simp [begP]
theorem begP_get {n i j q : Nat} (h : q < n) : (begP n i j)[q]? = some (if q < j then begE i q else 0) := by
  unfold begP; rw [List.getElem?_map, List.getElem?_range h]; rfl
theorem begP_succ {n i j : Nat} (h : j < n) (x : Int) (hx : x = begE i j) : (begP n i j).set j x = begP n i (j + 1) := by
  subst hx
  apply List.ext_getElem?
  intro q
  rw [List.getElem?_set, begP_len]
  by_cases e : j = q
  · subst e
    rw [if_pos rfl, if_pos h, begP_get h, if_pos (Nat.lt_succ_self j)]
  · rw [if_neg e]
    by_cases hq : q < n
    · rw [begP_get hq, begP_get hq]
      by_cases g : q < j
      · rw [if_pos g, if_pos (by omega)]
      · rw [if_neg g, if_neg (by omega)]
    · rw [List.getElem?_eq_none (by simp; omega), List.getElem?_eq_none (by simp; omega)]
theorem begP_skip {n i j : Nat} (h : j < n) (hx : begE i j = 0) : begP n i (j + 1) = begP n i j := by
  rw [← begP_succ h 0 hx.symm]
  apply List.ext_getElem?
  intro q
  rw [List.getElem?_set, begP_len]
  by_cases e : j = q
  · subst e
    rw [if_pos rfl, if_pos h, begP_get h, if_neg (Nat.lt_irrefl j)]
  · rw [if_neg e]
def wO (off n : Nat) : Nat → AV
  | 0 => .nilS
  | m + 1 => .slice (rowsO off (m + 1) n) (m + 1) (.tok m)
@[go_sem] theorem bs114 (i o n c : Nat) : buildSliceA T 114 1 [(0, .sref i o n c)] = some (.slice [.sref i o n c] 1 .exact) := rfl
theorem sr_appO {K : AV → St → Prop} {hK : Hold K} {h : List (Option Blk)} {k n off : Nat} (hk : k ≤ 1000)
    (next : K (wO off n (k + 1)) ⟨h, k + 1, toksN (k + 1)⟩) : sr K hK (appendA T ⟨h, k, toksN k⟩ 114 (wO off n k) (.slice [.sref (off + k) 0 n n] 1 .exact)) ⟨h, k, toksN k⟩ := by
  cases k with
  | zero =>
    have : appendA T ⟨h, 0, toksN 0⟩ 114 (wO off n 0) (.slice [.sref (off + 0) 0 n n] 1 .exact) = some (.tok none (fun j => .slice [.sref (off + 0) 0 n n] 1 (.tok j))) := rfl
    rw [this, sr_tok]; exact next
  | succ k =>
    show sr K hK (appendA T ⟨h, k + 1, toksN (k + 1)⟩ 114 (.slice (rowsO off (k + 1) n) (k + 1) (.tok k)) _) _
    rw [app_gen (e := 22) (ei := ti22) (lx := [.sref (off + (k + 1)) 0 n n]) (nx := 1) rfl rfl (by decide) rfl (by decide) rfl (by show (k + 1 + 1) * 24 ≤ _; omega) (by omega) (by simp [ti22])]
    rw [sr_tok_some]
    refine ⟨List.mem_cons_self, ?_⟩
    have : killTok (toksN (k + 1)) (some k) = [] := by simp [killTok, toksN]
    show K (.slice (rowsO off (k + 1) n ++ [.sref (off + (k + 1)) 0 n n]) (k + 1 + 1) (.tok (k + 1))) ⟨h, k + 1 + 1, (k + 1) :: killTok (toksN (k + 1)) (some k)⟩
    rw [this, rowsO_snoc]; exact next
theorem cells_end {A : List (Option Blk)} {R : Mat} {k : Nat} (hR : R.length = k) (l : List AV) : cellsAt (A ++ (heapR R ++ [some (.cells l)])) (A.length + k) = some l := by
  rw [← List.append_assoc]
  have := cellsAt_end (A ++ heapR R) l
  rw [List.length_append, heapR_len, hR] at this; exact this
theorem setH_fin {A : List (Option Blk)} {R : Mat} {k : Nat} (hR : R.length = k) (x : Option Blk) (B : Blk) : setH (A ++ (heapR R ++ [x])) (A.length + k) B = A ++ (heapR R ++ [some B]) := by
  rw [← List.append_assoc, ← List.append_assoc]
  have := setH_end (A ++ heapR R) x B
  rw [List.length_append, heapR_len, hR] at this; exact this
theorem begin_ac (A : List (Option Blk)) (many : Nat) (hm : many ≤ 100) : AC Tryz.prog 120 [.int .i64 many] ⟨A, 0, []⟩ fun e S' => e = .ret (.slice (rowsO A.length (many + 1) (many + 1)) (many + 1) (.tok many)) ∧ S' = ⟨A ++ heapR (begM (many + 1)), many + 1, [many]⟩ := by
  refine AC.run (Es_ok _ _) mix Tryz.func120 m120 rfl rfl rfl (Nat.le_of_ble_eq_true rfl) ?_
  simp only [go_sem, Nat.reduceEqDiff, Nat.reduceBEq, Nat.reduceAdd, reduceIte, reduceCtorEq, Nat.reduceLeDiff]
  refine wc_for (many + 1) (fun k => [(0, .int .i64 many), (3, wO A.length (many + 1) k), (4, .int .i64 k)]) (fun k => ⟨A ++ heapR ((List.range k).map (begRow (many + 1))), k, toksN k⟩) rfl (by simp [heapR, toksN]) ?_
  intro k hk I hI
  by_cases h : k < many + 1
  · have h' : (k : Int) ≤ many := by omega
    have w1 : IntKind.i64.wrap ((many : Int) + 1) = (many + 1 : Nat) := wrap64 (by omega)
    have w2 : IntKind.i64.wrap ((k : Int) + 1) = (k + 1 : Nat) := wrap64 (by omega)
    have hms := mk22 (k := .i64) (k' := .i64) (n := many + 1) (by omega)
    have hRl : ((List.range k).map (begRow (many + 1))).length = k := by simp
    have hl : (A ++ heapR ((List.range k).map (begRow (many + 1)))).length = A.length + k := by rw [List.length_append, heapR_len, hRl]
    rw [← begP_zero (many + 1) k] at hms
    simp only [go_sem, l120_0, h', decide_true, w1, hms, hl, Nat.reduceEqDiff, Nat.reduceBEq, Nat.reduceAdd, reduceIte, reduceCtorEq, Nat.reduceLeDiff]
    refine wc_for (many + 1) (fun j => [(0, .int .i64 many), (3, wO A.length (many + 1) k), (4, .int .i64 k), (5, .sref (A.length + k) 0 (many + 1) (many + 1)), (6, .int .i64 j)]) (fun j => ⟨A ++ (heapR ((List.range k).map (begRow (many + 1))) ++ [some (.cells (ints (begP (many + 1) k j)))]), k, toksN k⟩) rfl rfl ?_
    intro j hj I2 hI2
    have c1 := fun l => cells_end (A := A) hRl l
    have c2 := fun x B => setH_fin (A := A) hRl x B
    by_cases hjn : j < many + 1
    · have hj' : (j : Int) ≤ many := by omega
      have w3 : IntKind.i64.wrap ((j : Int) + 1) = (j + 1 : Nat) := wrap64 (by omega)
      have x1 : 0 ≤ (j : Int) ∧ (j : Int) < (many + 1 : Nat) := by omega
      have k1 : j + 1 ≤ many + 1 := by omega
      have hn := hI2 hjn
      by_cases hjk : j = k
      · have e1 : ¬ ((j : Int) ≠ k) := by omega
        have hz : begE k j = 0 := by unfold begE; rw [if_pos hjk]; split <;> rfl
        rw [begP_skip hjn hz] at hn
        by_cases hk0 : (k : Int) > 0
        · have e2 : ¬ ((j : Int) = 0) := by omega
          simp only [go_sem, l120_1, hj', decide_true, decide_false, e1, hk0, e2, w3, Nat.reduceEqDiff, Nat.reduceBEq, Nat.reduceAdd, reduceIte, reduceCtorEq, Nat.reduceLeDiff]
          exact hn
        · simp only [go_sem, l120_1, hj', decide_true, decide_false, e1, hk0, w3, Nat.reduceEqDiff, Nat.reduceBEq, Nat.reduceAdd, reduceIte, reduceCtorEq, Nat.reduceLeDiff]
          exact hn
      · have e1 : ((j : Int) ≠ k) := by omega
        have d1 : decide ((j : Int) ≠ k) = true := decide_eq_true e1
        by_cases hk0 : (k : Int) > 0
        · by_cases e2 : ((j : Int) = 0)
          · have hv : begE k j = 0 := by unfold begE; rw [if_pos ⟨by omega, by omega⟩]
            rw [← begP_succ hjn 0 hv.symm] at hn
            simp only [go_sem, l120_1, hj', decide_true, d1, hk0, x1, nat_idx, Nat.mul_one, and_self, c1, k1, ints_len, begP_len, put_eq, AV.cells, AV.one, List.all_cons, List.all_nil, Bool.and_self, splice, ints_set, c2, Nat.reduceEqDiff, Nat.reduceBEq, Nat.reduceAdd, reduceIte, reduceCtorEq, Nat.reduceLeDiff]
            have d2 : decide ((j : Int) = 0) = true := decide_eq_true e2
            simp only [go_sem, d2, decide_true, x1, nat_idx, Nat.mul_one, and_self, c1, k1, ints_len, begP_len, List.length_set, put_eq, AV.cells, AV.one, List.all_cons, List.all_nil, Bool.and_self, splice, ints_set, c2, w3, List.set_set, Nat.reduceEqDiff, Nat.reduceBEq, Nat.reduceAdd, reduceIte, reduceCtorEq, Nat.reduceLeDiff]
            exact hn
          · have hv : begE k j = 400 := by unfold begE; rw [if_neg (by omega), if_neg hjk]
            rw [← begP_succ hjn 400 hv.symm] at hn
            have d2 : decide ((j : Int) = 0) = false := decide_eq_false e2
            simp only [go_sem, l120_1, hj', decide_true, d1, hk0, x1, nat_idx, Nat.mul_one, and_self, c1, k1, ints_len, begP_len, put_eq, AV.cells, AV.one, List.all_cons, List.all_nil, Bool.and_self, splice, ints_set, c2, d2, w3, Nat.reduceEqDiff, Nat.reduceBEq, Nat.reduceAdd, reduceIte, reduceCtorEq, Nat.reduceLeDiff]
            exact hn
        · have hv : begE k j = 400 := by unfold begE; rw [if_neg (by omega), if_neg hjk]
          rw [← begP_succ hjn 400 hv.symm] at hn
          simp only [go_sem, l120_1, hj', decide_true, decide_false, d1, hk0, x1, nat_idx, Nat.mul_one, and_self, c1, k1, ints_len, begP_len, put_eq, AV.cells, AV.one, List.all_cons, List.all_nil, Bool.and_self, splice, ints_set, c2, w3, Nat.reduceEqDiff, Nat.reduceBEq, Nat.reduceAdd, reduceIte, reduceCtorEq, Nat.reduceLeDiff]
          exact hn
    · have hj' : ¬ (j : Int) ≤ many := by omega
      have ej : j = many + 1 := by omega
      subst ej
      rw [begP_full]
      simp only [go_sem, l120_1, hj', decide_false, builtinA, Nat.reduceEqDiff, Nat.reduceBEq, Nat.reduceAdd, reduceIte, reduceCtorEq, Nat.reduceLeDiff]
      refine sr_appO (by omega) ?_
      simp only [go_sem, w2, Nat.reduceEqDiff, Nat.reduceBEq, Nat.reduceAdd, reduceIte, reduceCtorEq, Nat.reduceLeDiff]
      have := hI h
      rw [List.range_succ, List.map_append, List.map_cons, List.map_nil, ← heapR_snoc] at this
      exact this
  · have h' : ¬ (k : Int) ≤ many := by omega
    have ek : k = many + 1 := by omega
    subst ek
    have hw : wO A.length (many + 1) (many + 1) = .slice (rowsO A.length (many + 1) (many + 1)) (many + 1) (.tok many) := rfl
    simp only [go_sem, l120_0, h', decide_false, hw, Tryz.f120, Nat.reduceEqDiff, Nat.reduceBEq, Nat.reduceAdd, reduceIte, reduceCtorEq, Nat.reduceLeDiff]
    rw [← List.range_succ]
    rfl
end Go.Av.Fx
end
section
namespace Go.Av.Fx
open Go Go.Av Go.Av.Tb Go.Proofs
open Go.Fw (Sq ent Bd Mat upd row stage upto)
theorem AC.args {P : Program} {f : FuncId} {args args' : List AV} {S : St} {R : AEnd → St → Prop} (h : AC P f args' S R) (hs : SubL args args') : AC P f args S R :=
  fun c w vs h1 h2 => h c w vs h1 (hs c vs h2)
theorem fold_sq {n : Nat} : ∀ (cs : List Bd) {W : Mat}, Sq n W → Sq n (cs.foldl Fw.addc W)
  | [], _, h => h
  | c :: cs, _, h => fold_sq cs (h.put _ _ _)
theorem cells_tail {A C : List (Option Blk)} {V : Mat} {n : Nat} (h : Sq n V) (l : List AV) (X : List (Option Blk)) : cellsAt (A ++ (heapR V ++ (C ++ some (.cells l) :: X))) (A.length + (n + C.length)) = some l := by
  unfold cellsAt
  rw [List.getElem?_append_right (by omega), Nat.add_sub_cancel_left, List.getElem?_append_right (by rw [heapR_len, h.1]; omega), heapR_len, h.1, Nat.add_sub_cancel_left, List.getElem?_append_right (Nat.le_refl _), Nat.sub_self]; rfl
def gvB (l : LLine) (s : List Int) (b i : Nat) : List Bd := [⟨b + i, b + i + 1, -lowL l s i⟩, ⟨b + i + 1, b + i, highL l s i⟩]
def ctB (b : Nat) (c : Cnt) : List Bd := [⟨0, b + c.point.toNat, c.high⟩, ⟨b + c.point.toNat, 0, -c.low⟩]
theorem rlineB_eq (l : LLine) (s : List Int) (b : Nat) : rlineB l s b = (List.range l.gives.length).flatMap (gvB l s b) ++ l.counts.flatMap (ctB b) := rfl
theorem gline_ac {l : LLine} (h : Lw l) {A C : List (Option Blk)} {V : Mat} {n : Nat} (hV : Sq n V) {off : Nat} (ho : A.length = off) (s : List Int) (hs : s.length ≤ 1000) {b : Nat} (hb : 0 < b) (hbn : b + l.gives.length < n) (hn : n ≤ 1000) (nt : Nat) (toks : List Nat) :
    AC Tryz.prog 121 [gA off n, lineA l, sl s, .int .i64 b] ⟨A ++ (heapR V ++ C), nt, toks⟩ fun e S' => e = .ret (.tuple []) ∧ ∃ C', S' = ⟨A ++ (heapR ((rlineB l s b).foldl Fw.addc V) ++ C'), nt, toks⟩ := by
  have hp := h.pts
  refine AC.run (Es_ok _ _) mix Tryz.func121 m121 rfl rfl rfl (Nat.le_of_ble_eq_true rfl) ?_
  have hL0 : (A ++ (heapR V ++ C)).length = A.length + (n + C.length) := by rw [List.length_append, List.length_append, heapR_len, hV.1]
  simp only [go_sem, boxA, hL0, Nat.reduceEqDiff, Nat.reduceBEq, Nat.reduceAdd, reduceIte, reduceCtorEq, Nat.reduceLeDiff]
  refine wc_for l.gives.length (fun k => [(0, gA off n), (2, sl s), (3, .int .i64 b), (5, .ref (A.length + (n + C.length)) 0), (8, .int .i64 k)]) (fun k => ⟨A ++ (heapR (((List.range k).flatMap (gvB l s b)).foldl Fw.addc V) ++ (C ++ [some (.cells (lineC l))])), nt, toks⟩) rfl rfl ?_
  intro k hk I hI
  have hVk := fold_sq ((List.range k).flatMap (gvB l s b)) hV
  have hbox := cells_tail (A := A) (C := C) hVk (lineC l) []
  by_cases h' : k < l.gives.length
  · have h1 : (k : Int) < l.gives.length := by omega
    have h2 : 0 ≤ (k : Int) ∧ (k : Int) < l.gives.length := by omega
    have h3 : l.gives[k]? = some (l.gives.getD k 0) := by rw [List.getD_eq_getElem?_getD, List.getElem?_eq_getElem h']; rfl
    have h4 : IntKind.i64.wrap ((k : Int) + 1) = (k + 1 : Nat) := wrap64 (by omega)
    have hg := h.give k
    have hle := h.least; have hmo := h.most
    have w1 : IntKind.i64.wrap (0 - l.gives.getD k 0) = -l.gives.getD k 0 := by rw [wrap64 (by omega)]; omega
    have w2 : IntKind.i64.wrap ((b : Int) + k) = (b + k : Nat) := by rw [wrap64 (by omega)]; omega
    have w3 : IntKind.i64.wrap (((b + k : Nat) : Int) + 1) = (b + k + 1 : Nat) := by rw [wrap64 (by omega)]; omega
    have hn' := hI h'
    rw [List.range_succ, List.flatMap_append, List.foldl_append] at hn'
    have e5 : [k].flatMap (gvB l s b) = gvB l s b k := by simp
    rw [e5] at hn'
    generalize ((List.range k).flatMap (gvB l s b)).foldl Fw.addc V = Vk at *
    unfold gvB at hn'
    simp only [go_sem, l121_0, builtinA, hbox, h1, decide_true, h2, ints_get, h3, unA, w1, Nat.reduceEqDiff, Nat.reduceBEq, Nat.reduceAdd, reduceIte, reduceCtorEq, Nat.reduceLeDiff]
    refine call_pure (E := Es _ _) n77 (has_pc s (by show _ < _; omega) k) (SubL.refl _) ?_
    cases hc : s.contains (k : Int)
    · have e1 : lowL l s k = l.gives.getD k 0 := by unfold lowL; rw [hc]; rfl
      have e2 : highL l s k = l.gives.getD k 0 := by unfold highL; rw [hc]; rfl
      simp only [go_sem, w2, w3, Nat.reduceEqDiff, Nat.reduceBEq, Nat.reduceAdd, reduceIte, reduceCtorEq, Nat.reduceLeDiff]
      refine call_ac (E := Es _ _) n137 (differ_ac hVk ho (to := b + k + 1) (frm := b + k) (by omega) (by omega) _ _ (by rw [wrap64 (by omega)]; omega) nt toks) (fun v S' hR => ?_) (fun v S' hR => ?_)
      · obtain ⟨e, rfl⟩ := hR
        cases e
        simp only [go_sem, h4, Nat.reduceEqDiff, Nat.reduceBEq, Nat.reduceAdd, reduceIte, reduceCtorEq, Nat.reduceLeDiff]
        rw [Int.neg_neg, ← e1]
        rw [e2, ← e1] at hn'
        exact hn'
      · obtain ⟨e, _⟩ := hR
        cases e
    · have w4 : IntKind.i64.wrap (-l.gives.getD k 0 - l.most) = -highL l s k := by
        unfold highL; rw [hc, if_pos rfl, wrap64 (by omega)]; omega
      have w5 : IntKind.i64.wrap (-l.gives.getD k 0 - l.least) = -lowL l s k := by
        unfold lowL; rw [hc, if_pos rfl, wrap64 (by omega)]; omega
      have hlow := h.low s k
      simp only [go_sem, w2, w3, w4, w5, hbox, Nat.reduceEqDiff, Nat.reduceBEq, Nat.reduceAdd, reduceIte, reduceCtorEq, Nat.reduceLeDiff]
      refine call_ac (E := Es _ _) n137 (differ_ac hVk ho (to := b + k + 1) (frm := b + k) (by omega) (by omega) _ _ (by rw [wrap64 (by omega)]; omega) nt toks) (fun v S' hR => ?_) (fun v S' hR => ?_)
      · obtain ⟨e, rfl⟩ := hR
        cases e
        simp only [go_sem, h4, Nat.reduceEqDiff, Nat.reduceBEq, Nat.reduceAdd, reduceIte, reduceCtorEq, Nat.reduceLeDiff]
        rw [Int.neg_neg]
        exact hn'
      · obtain ⟨e, _⟩ := hR
        cases e
  have h1 : ¬ (k : Int) < l.gives.length := by omega
  have e : k = l.gives.length := by omega
  subst e
  clear hI hk h'
  rw [rlineB_eq, List.foldl_append]
  simp only [go_sem, l121_0, builtinA, hbox, h1, decide_false, Nat.reduceEqDiff, Nat.reduceBEq, Nat.reduceAdd, reduceIte, reduceCtorEq, Nat.reduceLeDiff]
  generalize ((List.range l.gives.length).flatMap (gvB l s b)).foldl Fw.addc V = V2 at *
  clear hV hL0 hbox
  have hcts := h.cts
  refine wc_loop (fun m ts' S' => ∃ k X, k ≤ l.counts.length ∧ m = l.counts.length - k ∧ ts' = [(0, gA off n), (3, .int .i64 b), (5, .ref (A.length + (n + C.length)) 0), (11, .int .i64 k)] ∧ S' = ⟨A ++ (heapR (((l.counts.take k).flatMap (ctB b)).foldl Fw.addc V2) ++ (C ++ some (.cells (lineC l)) :: X)), nt, toks⟩) l.counts.length ⟨0, [], Nat.zero_le _, rfl, rfl, rfl⟩ ?_
  rintro m ts' S' ⟨k, X, hk, rfl, rfl, rfl⟩
  have hV3 := fold_sq ((l.counts.take k).flatMap (ctB b)) hVk
  have hbox := cells_tail (A := A) (C := C) hV3 (lineC l) X
  by_cases h' : k < l.counts.length
  · have h1 : (k : Int) < l.counts.length := by omega
    have h2 : 0 ≤ (k : Int) ∧ (k : Int) < l.counts.length := by omega
    have h3 : k * 3 + 3 ≤ (cnts l.counts).length := by rw [cnts_len]; omega
    have h5 := cnts_at l.counts k h'
    have h4 : IntKind.i64.wrap ((k : Int) + 1) = (k + 1 : Nat) := wrap64 (by omega)
    have hn' : ((l.counts.take (k + 1)).flatMap (ctB b)).foldl Fw.addc V2 = (ctB b l.counts[k]).foldl Fw.addc (((l.counts.take k).flatMap (ctB b)).foldl Fw.addc V2) := by
      rw [List.take_succ_eq_append_getElem h', List.flatMap_append, List.foldl_append]; simp
    have hcb := h.counts _ (List.getElem_mem h')
    generalize ((l.counts.take k).flatMap (ctB b)).foldl Fw.addc V2 = V3 at *
    generalize l.counts[k] = c at *
    have w2 : IntKind.i64.wrap ((b : Int) + c.point) = (b + c.point.toNat : Nat) := by rw [wrap64 (by omega)]; omega
    have hd := differ_ac (A := A) (C := C ++ some (.cells (lineC l)) :: (X ++ [some (.cells (cntC c))])) hV3 ho (to := b + c.point.toNat) (frm := 0) (by omega) (by omega) c.low c.high (by rw [wrap64 (by omega)]; omega) nt toks
    have hH : ∀ y, A ++ (heapR V3 ++ (C ++ some (.cells (lineC l)) :: (X ++ [y]))) = (A ++ (heapR V3 ++ (C ++ some (.cells (lineC l)) :: X))) ++ [y] := fun y => by simp
    rw [hH] at hd
    generalize A ++ (heapR V3 ++ (C ++ some (.cells (lineC l)) :: X)) = H at hbox hd ⊢
    have c1 := cellsAt_end H
    have c2 := fun x B => setH_end H x B
    simp only [go_sem, l121_1, builtinA, hbox, h1, decide_true, h2, h3, h5, c1, c2, put_eq, w2, Nat.reduceEqDiff, Nat.reduceBEq, Nat.reduceAdd, reduceIte, reduceCtorEq, Nat.reduceLeDiff]
    refine call_ac (E := Es _ _) n137 hd (fun v S' hR => ?_) (fun v S' hR => ?_)
    · obtain ⟨e, rfl⟩ := hR
      cases e
      simp only [go_sem, h4, Nat.reduceEqDiff, Nat.reduceBEq, Nat.reduceAdd, reduceIte, reduceCtorEq, Nat.reduceLeDiff]
      exact again_here (l.counts.length - (k + 1)) (by omega) ⟨k + 1, X ++ [some (.cells (cntC c))], h', rfl, rfl, by rw [hn']; rfl⟩
    · obtain ⟨e, _⟩ := hR
      cases e
  · have h1 : ¬ (k : Int) < l.counts.length := by omega
    have e : k = l.counts.length := by omega
    subst e
    rw [List.take_length] at *
    simp only [go_sem, l121_1, builtinA, hbox, h1, decide_false, Tryz.f121, Nat.reduceEqDiff, Nat.reduceBEq, Nat.reduceAdd, reduceIte, reduceCtorEq, Nat.reduceLeDiff]
    exact ⟨rfl, _, rfl⟩
end Go.Av.Fx
end
