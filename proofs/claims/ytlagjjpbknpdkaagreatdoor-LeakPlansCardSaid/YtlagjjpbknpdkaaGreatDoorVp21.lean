/- Part 21 of the proof. -/
import Derived.Test.YtlagjjpbknpdkaaGreatDoorVp20
import Derived.Shelf.Strings.OnBuilder
import Derived.Shelf.LaysM
import Derived.Shelf.Strconv.Itoa3
import Derived.Shelf.Strings.Prefix
import Derived.Shelf.Strings.Split
import Derived.Test.YtlagjjpbknpdkaaGreatDoorProg
import Derived.Test.YtlagjjpbknpdkaaGreatDoorVp11
set_option linter.all false
set_option linter.unusedVariables false
set_option linter.unusedSimpArgs false
set_option linter.unusedSectionVars false
open Nat (reduceEqDiff reduceAdd reduceLeDiff)
section
namespace Go.Av.Fx
open Go Go.Av Go.Av.Tb Go.Proofs
open Go.Fw (Sq ent Bd Mat)
theorem AC.of_iso {P : Program} {f : FuncId} {args : List AV} {Q Qp : AV → Prop} (h : AC P f args St.empty fun e _ => (∃ v, e = .ret v ∧ Q v) ∨ (∃ v, e = .panic v ∧ Qp v)) (ha : bndL 0 0 args = true) (hQ : ∀ v, Q v → v.bnd 0 0 = true) (hQp : ∀ v, Qp v → v.bnd 0 0 = true) (S : St) :
  AC P f args S fun e S' => ((∃ v, e = .ret v ∧ Q v) ∨ (∃ v, e = .panic v ∧ Qp v)) ∧ S' = S := by
 intro c w vs hs hl
 obtain ⟨cE, hE, eK, eμ, eτ, esz, eX, eXO, eB, eT, eF⟩ := hide hs
 refine (h cE w vs hE (hl.free ha fun b o u e => by rw [eK]; exact e)).mono fun e w' ⟨ae, S', c', h1, h2, h3, h4⟩ => ?_
 obtain ⟨g1, g2⟩ := unhide hs h1 h4 eK esz eX eXO eB eT hE (fun b o e => eF ▸ e) (by rw [eF])
 rcases h2 with ⟨v, rfl, hv⟩ | ⟨v, rfl, hv⟩
 ·cases e with
  | returned x => exact ⟨.ret v, S, back c c', g1, ⟨.inl ⟨v, rfl, hv⟩, rfl⟩, VRel.free h3 (hQ v hv) (fun _ _ _ e => e), g2⟩
  | panicked ch => exact h3.elim
  | outgrown => exact h3.elim
 ·cases e with
  | returned x => exact h3.elim
  | panicked ch =>
   obtain ⟨x, hx, hxv⟩ := h3
   exact ⟨.panic v, S, back c c', g1, ⟨.inr ⟨v, rfl, hv⟩, rfl⟩, ⟨x, hx, VRel.free hxv (hQp v hv) (fun _ _ _ e => e)⟩, g2⟩
  | outgrown => exact h3.elim
structure Truth where
 inflow : Int
 losses : List Int
abbrev trC (t : Truth) : List AV := [.int .i64 t.inflow, sl t.losses]
attribute [go_sem] trC
def lossBad (l : LLine) (n : Int) : Bool := decide (n ≠ 0) && !inB n l.least l.most
theorem isTruth1_pc (l : LLine) (n : Int) : PC Tryz.prog 149 [.int .i64 n, .eptr (lineC l) 0] (.pure (.bool (lossBad l n))) := by
 refine PC.of_empty (AC.run (E_ok _) mix Tryz.func149 m149 rfl rfl rfl (Nat.le_of_ble_eq_true rfl) ?_) (by simp [bndL, AV.bnd]) rfl
 unfold lossBad
 by_cases h : n ≠ 0
 ·have hd : decide (n ≠ 0) = true := decide_eq_true h
  simp only [go_sem, hd, reduceEqDiff, Nat.reduceBEq, reduceAdd, reduceIte, reduceCtorEq, reduceLeDiff]
  refine cp n83 (in_pc _ _ _) (SubL.refl _) ?_
  rw [show (decide (n ≥ l.least) && decide (n ≤ l.most)) = inB n l.least l.most from rfl]
  simp only [go_sem, un_not, Tryz.f149, Bool.true_and, reduceEqDiff, Nat.reduceBEq, reduceAdd, reduceIte, reduceCtorEq, reduceLeDiff]
 ·have hd : decide (n ≠ 0) = false := decide_eq_false h
  simp only [go_sem, hd, Tryz.f149, Bool.false_and, reduceEqDiff, Nat.reduceBEq, reduceAdd, reduceIte, reduceCtorEq, reduceLeDiff]
def truthB (l : LLine) (t : Truth) : Bool := inB t.inflow 0 400 && (decide ((t.losses.length : Int) = l.gives.length) && !t.losses.any (lossBad l))
theorem isTruth_pc (l : LLine) (t : Truth) (hl : okL t.losses.length) : PC Tryz.prog 115 [lineA l, .agg (trC t)] (.pure (.bool (truthB l t))) := by
 refine PC.of_empty (AC.run (E_ok _) mix Tryz.func115 m115 rfl rfl rfl (Nat.le_of_ble_eq_true rfl) ?_) (by simp [bndL, AV.bnd]) rfl
 unfold truthB
 simp only [go_sem, boxA, reduceEqDiff, Nat.reduceBEq, reduceAdd, reduceIte, reduceCtorEq, reduceLeDiff]
 refine cp n127 (isCups_pc _) (SubL.refl _) ?_
 rw [show (decide (t.inflow ≥ 0) && decide (t.inflow ≤ 400)) = inB t.inflow 0 400 from rfl]
 cases h1 : inB t.inflow 0 400
 ·simp only [go_sem, Tryz.f115, Bool.false_and, reduceEqDiff, Nat.reduceBEq, reduceAdd, reduceIte, reduceCtorEq, reduceLeDiff]
 by_cases h2 : (t.losses.length : Int) = l.gives.length
 ·simp only [go_sem, builtinA, h2, decide_true, reduceEqDiff, Nat.reduceBEq, reduceAdd, reduceIte, reduceCtorEq, reduceLeDiff]
  refine cl n123 (containsFunc_pc t.losses hl 149 n149 [.eptr (lineC l) 0] (by simp [bndL, AV.bnd]) (lossBad l) (fun x _ => isTruth1_pc l x)) (LntL.cons (.same _ (by simp [AV.bnd])) (LntL.cons (Lnt.func1 (.ptr 0 0 _ rfl (by simp [bndL, AV.bnd]))) (LntL.nil _))) rfl ?_
  simp only [go_sem, un_not, Tryz.f115, Bool.true_and, reduceEqDiff, Nat.reduceBEq, reduceAdd, reduceIte, reduceCtorEq, reduceLeDiff]
 ·simp only [go_sem, builtinA, h2, decide_false, Tryz.f115, Bool.true_and, Bool.false_and, reduceEqDiff, Nat.reduceBEq, reduceAdd, reduceIte, reduceCtorEq, reduceLeDiff]
theorem follow1_pc (c : Cnt) (p flow : Int) : PC Tryz.prog 150 [.agg (cntC c), .eptr [.int .i64 p] 0, .eptr [.int .i64 flow] 0] (.pure (.bool (decide (c.point = p) && !inB flow c.low c.high))) := by
 refine PC.of_empty (AC.run (E_ok _) mix Tryz.func150 m150 rfl rfl rfl (Nat.le_of_ble_eq_true rfl) ?_) (by simp [bndL, AV.bnd]) rfl
 by_cases h : c.point = p
 ·simp only [go_sem, boxA, h, decide_true, reduceEqDiff, Nat.reduceBEq, reduceAdd, reduceIte, reduceCtorEq, reduceLeDiff]
  refine cp n83 (in_pc _ _ _) (SubL.refl _) ?_
  rw [show (decide (flow ≥ c.low) && decide (flow ≤ c.high)) = inB flow c.low c.high from rfl]
  simp only [go_sem, un_not, Tryz.f150, Bool.true_and, reduceEqDiff, Nat.reduceBEq, reduceAdd, reduceIte, reduceCtorEq, reduceLeDiff]
 ·simp only [go_sem, boxA, h, decide_false, Tryz.f150, Bool.false_and, reduceEqDiff, Nat.reduceBEq, reduceAdd, reduceIte, reduceCtorEq, reduceLeDiff]
def flowT (l : LLine) (t : Truth) : Nat → Int
 | 0 => t.inflow
 | p + 1 => flowT l t p - (l.gives.getD p 0 + t.losses.getD p 0)
def tappedT (t : Truth) : Nat → Nat
 | 0 => 0
 | p + 1 => if t.losses.getD p 0 > 0 then tappedT t p + 1 else tappedT t p
def wrongT (l : LLine) (t : Truth) (p : Nat) : Bool := l.counts.any fun c => decide (c.point = (p : Int)) && !inB (flowT l t p) c.low c.high
def badT (l : LLine) (t : Truth) (p : Nat) : Bool := decide (flowT l t p < 0) || (decide ((tappedT t p : Int) > l.taps) || wrongT l t p)
def fitsT (l : LLine) (t : Truth) : Bool := (List.range (l.gives.length + 1)).all fun p => !badT l t p
theorem truth_loss {l : LLine} (h : Ln l) {t : Truth} (ht : truthB l t = true) (i : Nat) : 0 ≤ t.losses.getD i 0 ∧ t.losses.getD i 0 ≤ 60 := by
 unfold truthB at ht
 simp only [Bool.and_eq_true, Bool.not_eq_true', List.any_eq_false] at ht
 have h3 := ht.2.2
 rw [List.getD_eq_getElem?_getD]
 cases hx : t.losses[i]? with
 | none => simp
 | some g =>
  have := h3 g (List.mem_of_getElem? hx)
  have h4 := h.least; have h5 := h.most
  simp only [Option.getD_some]
  by_cases hg : g = 0
  ·subst hg; decide
  ·simp [lossBad, hg, inB] at this
   omega
theorem flowT_bnd {l : LLine} (h : Ln l) {t : Truth} (ht : truthB l t = true) : ∀ p, p ≤ 1000 → -1000000 ≤ flowT l t p - -(120 * (p : Int)) ∧ flowT l t p ≤ 400
 | 0, _ => by
  unfold truthB at ht
  simp only [Bool.and_eq_true] at ht
  have := inB_iff.1 ht.1
  simp only [flowT]; omega
 | p + 1, hp => by
  have ih := flowT_bnd h ht p (by omega)
  have h1 := truth_loss h ht p
  have h2 := h.give p
  simp only [flowT]; omega
theorem tappedT_le (t : Truth) : ∀ p, tappedT t p ≤ p
 | 0 => Nat.le_refl _
 | p + 1 => by have := tappedT_le t p; unfold tappedT; split <;> omega
@[go_sem] theorem d174 : descOf T 174 = some ti174.desc := rfl
@[go_sem] theorem i174 : isIface ti174.desc = false := rfl
@[go_sem] theorem bd174 (a : Int) : buildA T 174 [(0, .int .i64 a)] = some (.agg [.int .i64 a]) := rfl
theorem follow_ac (l : LLine) (h : Ln l) (t : Truth) (ht : truthB l t = true) (S : St) : AC Tryz.prog 117 [lineA l, .agg (trC t)] S fun e S' =>
  ((∃ v, e = .ret v ∧ (fitsT l t = true ∧ v = .tuple [])) ∨ (∃ v, e = .panic v ∧ (fitsT l t = false ∧ ∃ p : Int, v = .iface 174 (.agg [.int .i64 p])))) ∧ S' = S := by
 refine AC.of_iso (Q := fun v => fitsT l t = true ∧ v = .tuple []) (Qp := fun v => fitsT l t = false ∧ ∃ p : Int, v = .iface 174 (.agg [.int .i64 p])) ?_ (by simp [bndL, AV.bnd]) (fun v hv => by rw [hv.2]; rfl) (fun v ⟨_, p, hv⟩ => by rw [hv]; rfl) S
 refine AC.run (E_ok _) mix Tryz.func117 m117 rfl rfl rfl (Nat.le_of_ble_eq_true rfl) ?_
 have hpts := h.pts
 have w0 : IntKind.i64.wrap ((l.gives.length : Int) + 1) = (l.gives.length + 1 : Nat) := wrap64 (by omega)
 simp only [go_sem, boxA, builtinA, w0, reduceEqDiff, Nat.reduceBEq, reduceAdd, reduceIte, reduceCtorEq, reduceLeDiff]
 refine wc_forGP (l.gives.length + 1) (fun p => ∀ q, q < p → badT l t q = false) (fun p => [(2, .ref 0 0), (3, .ref 1 0), (4, .ref 2 0), (5, .int .i64 (tappedT t (p - 1))), (13, .int .i64 (l.gives.length + 1 : Nat)), (14, .int .i64 p)])
  (fun p => ⟨[some (.cells (lineC l)), some (.cells (trC t)), some (.cells [.int .i64 (flowT l t (p - 1))])], 0, []⟩) (fun q hq => absurd hq (Nat.not_lt_zero _)) rfl rfl (fun k hk => ?_) ?_
 ·refine ⟨Nat.zero_le _, Nat.zero_le _, by simp [bndTS, AV.bnd], fun i B hB => ?_, fun t ht => by cases ht⟩
  match i, hB with
  | 0, hB => simp at hB; subst hB; simp [Blk.bnd, bndL, AV.bnd]
  | 1, hB => simp at hB; subst hB; simp [Blk.bnd, bndL, AV.bnd]
  | 2, hB => simp at hB; subst hB; simp [Blk.bnd, bndL, AV.bnd]
  | i + 3, hB => simp at hB
 intro p hp hP I hI
 by_cases h' : p < l.gives.length + 1
 ·have h1 : (p : Int) < (l.gives.length + 1 : Nat) := by omega
  have h6 : IntKind.i64.wrap ((p : Int) + 1) = (p + 1 : Nat) := wrap64 (by omega)
  have hI' := hI h'
  rw [Nat.add_sub_cancel] at hI'
  clear hI
  cases p with
  | zero =>
   have z : ¬ (((0 : Nat) : Int) > 0) := by decide
   rw [show (0 : Nat) - 1 = 0 from rfl]
   simp only [go_sem, l117_0, h1, decide_true, z, decide_false, reduceEqDiff, Nat.reduceBEq, reduceAdd, reduceIte, reduceCtorEq, reduceLeDiff]
   refine cl n125 (containsFuncC_pc l.counts h.ok.2 150 n150 [.eptr [.int .i64 (0 : Nat)] 0, .eptr [.int .i64 (flowT l t (0))] 0] (by simp [bndL, AV.bnd]) (fun c => decide (c.point = ((0 : Nat) : Int)) && !inB (flowT l t (0)) c.low c.high) (fun c _ => follow1_pc c _ _)) (LntL.cons (.same _ (by simp [AV.bnd])) (LntL.cons (Lnt.funcL (LntL.cons (.ptr 3 0 _ rfl rfl) (LntL.cons (.ptr 2 0 _ rfl rfl) (LntL.nil _)))) (LntL.nil _))) rfl ?_
   rw [show l.counts.any (fun c => decide (c.point = ((0 : Nat) : Int)) && !inB (flowT l t (0)) c.low c.high) = wrongT l t (0) from rfl]
   have hbad : badT l t (0) = true → fitsT l t = false := fun hb => by
    cases hx : fitsT l t
    ·rfl
    ·unfold fitsT at hx
     rw [List.all_eq_true] at hx
     have := hx (0) (List.mem_range.2 h')
     rw [hb] at this; cases this
   by_cases b1 : flowT l t (0) < 0
   ·have hf := hbad (by unfold badT; rw [decide_eq_true b1]; rfl)
    simp only [go_sem, b1, decide_true, reduceEqDiff, Nat.reduceBEq, reduceAdd, reduceIte, reduceCtorEq, reduceLeDiff]
    exact .inr ⟨_, rfl, hf, _, rfl⟩
   by_cases b2 : (tappedT t (0) : Int) > l.taps
   ·have hf := hbad (by unfold badT; rw [decide_eq_true b2]; simp)
    simp only [go_sem, b1, b2, decide_true, decide_false, reduceEqDiff, Nat.reduceBEq, reduceAdd, reduceIte, reduceCtorEq, reduceLeDiff]
    exact .inr ⟨_, rfl, hf, _, rfl⟩
   cases b3 : wrongT l t (0)
   ·have hgood : badT l t (0) = false := by unfold badT; rw [decide_eq_false b1, decide_eq_false b2, b3]; rfl
    simp only [go_sem, b1, b2, decide_false, h6, reduceEqDiff, Nat.reduceBEq, reduceAdd, reduceIte, reduceCtorEq, reduceLeDiff]
    refine hI' (fun x hx => ?_) [_]
    by_cases e : x = 0
    ·rw [e]; exact hgood
    ·exact hP x (by omega)
   ·have hf := hbad (by unfold badT; rw [b3]; simp)
    simp only [go_sem, b1, b2, decide_false, reduceEqDiff, Nat.reduceBEq, reduceAdd, reduceIte, reduceCtorEq, reduceLeDiff]
    exact .inr ⟨_, rfl, hf, _, rfl⟩
  | succ q =>
   have z : (((q + 1 : Nat) : Int) > 0) := by omega
   have z2 : IntKind.i64.wrap (((q + 1 : Nat) : Int) - 1) = (q : Nat) := by rw [wrap64 (by omega)]; omega
   have hll : (t.losses.length : Int) = l.gives.length := by
    unfold truthB at ht; simp only [Bool.and_eq_true, decide_eq_true_iff] at ht; exact ht.2.1
   have z3 : 0 ≤ (q : Int) ∧ (q : Int) < l.gives.length := by omega
   have z4 : 0 ≤ (q : Int) ∧ (q : Int) < t.losses.length := by omega
   have z5 : l.gives[q]? = some (l.gives.getD q 0) := by rw [getD_at 0 (by omega), List.getElem?_eq_getElem]
   have z6 : t.losses[q]? = some (t.losses.getD q 0) := by rw [getD_at 0 (by omega), List.getElem?_eq_getElem]
   have hfb := flowT_bnd h ht q (by omega)
   have hg1 := h.give q
   have hg2 := truth_loss h ht q
   rw [Nat.add_sub_cancel]
   simp only [go_sem, l117_0, h1, decide_true, z, z2, z3, z4, z5, z6, ints_get, reduceEqDiff, Nat.reduceBEq, reduceAdd, reduceIte, reduceCtorEq, reduceLeDiff]
   refine qp n130 (sum_pc [l.gives.getD q 0, t.losses.getD q 0] (by show 2 < 9223372036854775807; decide)) (SubL.cons (Sub.unk _ 2 .exact) (SubL.refl [])) ?_
   rw [show List.foldl (fun a b => IntKind.i64.wrap (a + b)) 0 [l.gives.getD q 0, t.losses.getD q 0] = l.gives.getD q 0 + t.losses.getD q 0 from sumW2 (by omega) (by omega)]
   have z7 : IntKind.i64.wrap (flowT l t q - (l.gives.getD q 0 + t.losses.getD q 0)) = flowT l t (q + 1) := by rw [wrap64 (by omega)]; rfl
   have htq : tappedT t q ≤ q := tappedT_le t q
   have z8 : IntKind.i64.wrap ((tappedT t q : Int) + 1) = (tappedT t q + 1 : Nat) := wrap64 (by omega)
   by_cases hpos : t.losses.getD q 0 > 0
   ·have ht1 : tappedT t (q + 1) = tappedT t q + 1 := by show (if t.losses.getD q 0 > 0 then tappedT t q + 1 else tappedT t q) = _; rw [if_pos hpos]
    simp only [go_sem, z2, z4, z6, z7, ints_get, hpos, decide_true, z8, reduceEqDiff, Nat.reduceBEq, reduceAdd, reduceIte, reduceCtorEq, reduceLeDiff]
    rw [← ht1]
    refine cl n125 (containsFuncC_pc l.counts h.ok.2 150 n150 [.eptr [.int .i64 (q + 1 : Nat)] 0, .eptr [.int .i64 (flowT l t (q + 1))] 0] (by simp [bndL, AV.bnd]) (fun c => decide (c.point = ((q + 1 : Nat) : Int)) && !inB (flowT l t (q + 1)) c.low c.high) (fun c _ => follow1_pc c _ _)) (LntL.cons (.same _ (by simp [AV.bnd])) (LntL.cons (Lnt.funcL (LntL.cons (.ptr 3 0 _ rfl rfl) (LntL.cons (.ptr 2 0 _ rfl rfl) (LntL.nil _)))) (LntL.nil _))) rfl ?_
    rw [show l.counts.any (fun c => decide (c.point = ((q + 1 : Nat) : Int)) && !inB (flowT l t (q + 1)) c.low c.high) = wrongT l t (q + 1) from rfl]
    have hbad : badT l t (q + 1) = true → fitsT l t = false := fun hb => by
     cases hx : fitsT l t
     ·rfl
     ·unfold fitsT at hx
      rw [List.all_eq_true] at hx
      have := hx (q + 1) (List.mem_range.2 h')
      rw [hb] at this; cases this
    by_cases b1 : flowT l t (q + 1) < 0
    ·have hf := hbad (by unfold badT; rw [decide_eq_true b1]; rfl)
     simp only [go_sem, b1, decide_true, reduceEqDiff, Nat.reduceBEq, reduceAdd, reduceIte, reduceCtorEq, reduceLeDiff]
     exact .inr ⟨_, rfl, hf, _, rfl⟩
    by_cases b2 : (tappedT t (q + 1) : Int) > l.taps
    ·have hf := hbad (by unfold badT; rw [decide_eq_true b2]; simp)
     simp only [go_sem, b1, b2, decide_true, decide_false, reduceEqDiff, Nat.reduceBEq, reduceAdd, reduceIte, reduceCtorEq, reduceLeDiff]
     exact .inr ⟨_, rfl, hf, _, rfl⟩
    cases b3 : wrongT l t (q + 1)
    ·have hgood : badT l t (q + 1) = false := by unfold badT; rw [decide_eq_false b1, decide_eq_false b2, b3]; rfl
     simp only [go_sem, b1, b2, decide_false, h6, reduceEqDiff, Nat.reduceBEq, reduceAdd, reduceIte, reduceCtorEq, reduceLeDiff]
     refine hI' (fun x hx => ?_) [_]
     by_cases e : x = q + 1
     ·rw [e]; exact hgood
     ·exact hP x (by omega)
    ·have hf := hbad (by unfold badT; rw [b3]; simp)
     simp only [go_sem, b1, b2, decide_false, reduceEqDiff, Nat.reduceBEq, reduceAdd, reduceIte, reduceCtorEq, reduceLeDiff]
     exact .inr ⟨_, rfl, hf, _, rfl⟩
   ·have ht1 : tappedT t (q + 1) = tappedT t q := by show (if t.losses.getD q 0 > 0 then tappedT t q + 1 else tappedT t q) = _; rw [if_neg hpos]
    simp only [go_sem, z2, z4, z6, z7, ints_get, hpos, decide_false, z8, reduceEqDiff, Nat.reduceBEq, reduceAdd, reduceIte, reduceCtorEq, reduceLeDiff]
    rw [← ht1]
    refine cl n125 (containsFuncC_pc l.counts h.ok.2 150 n150 [.eptr [.int .i64 (q + 1 : Nat)] 0, .eptr [.int .i64 (flowT l t (q + 1))] 0] (by simp [bndL, AV.bnd]) (fun c => decide (c.point = ((q + 1 : Nat) : Int)) && !inB (flowT l t (q + 1)) c.low c.high) (fun c _ => follow1_pc c _ _)) (LntL.cons (.same _ (by simp [AV.bnd])) (LntL.cons (Lnt.funcL (LntL.cons (.ptr 3 0 _ rfl rfl) (LntL.cons (.ptr 2 0 _ rfl rfl) (LntL.nil _)))) (LntL.nil _))) rfl ?_
    rw [show l.counts.any (fun c => decide (c.point = ((q + 1 : Nat) : Int)) && !inB (flowT l t (q + 1)) c.low c.high) = wrongT l t (q + 1) from rfl]
    have hbad : badT l t (q + 1) = true → fitsT l t = false := fun hb => by
     cases hx : fitsT l t
     ·rfl
     ·unfold fitsT at hx
      rw [List.all_eq_true] at hx
      have := hx (q + 1) (List.mem_range.2 h')
      rw [hb] at this; cases this
    by_cases b1 : flowT l t (q + 1) < 0
    ·have hf := hbad (by unfold badT; rw [decide_eq_true b1]; rfl)
     simp only [go_sem, b1, decide_true, reduceEqDiff, Nat.reduceBEq, reduceAdd, reduceIte, reduceCtorEq, reduceLeDiff]
     exact .inr ⟨_, rfl, hf, _, rfl⟩
    by_cases b2 : (tappedT t (q + 1) : Int) > l.taps
    ·have hf := hbad (by unfold badT; rw [decide_eq_true b2]; simp)
     simp only [go_sem, b1, b2, decide_true, decide_false, reduceEqDiff, Nat.reduceBEq, reduceAdd, reduceIte, reduceCtorEq, reduceLeDiff]
     exact .inr ⟨_, rfl, hf, _, rfl⟩
    cases b3 : wrongT l t (q + 1)
    ·have hgood : badT l t (q + 1) = false := by unfold badT; rw [decide_eq_false b1, decide_eq_false b2, b3]; rfl
     simp only [go_sem, b1, b2, decide_false, h6, reduceEqDiff, Nat.reduceBEq, reduceAdd, reduceIte, reduceCtorEq, reduceLeDiff]
     refine hI' (fun x hx => ?_) [_]
     by_cases e : x = q + 1
     ·rw [e]; exact hgood
     ·exact hP x (by omega)
    ·have hf := hbad (by unfold badT; rw [b3]; simp)
     simp only [go_sem, b1, b2, decide_false, reduceEqDiff, Nat.reduceBEq, reduceAdd, reduceIte, reduceCtorEq, reduceLeDiff]
     exact .inr ⟨_, rfl, hf, _, rfl⟩
 ·have h1 : ¬ (p : Int) < (l.gives.length + 1 : Nat) := by omega
  have hf : fitsT l t = true := by
   unfold fitsT; rw [List.all_eq_true]; intro q hq
   rw [hP q (by have := List.mem_range.1 hq; omega)]; rfl
  simp only [go_sem, l117_0, h1, decide_false, Tryz.f117, reduceEqDiff, Nat.reduceBEq, reduceAdd, reduceIte, reduceCtorEq, reduceLeDiff]
  exact .inl ⟨_, rfl, hf, rfl⟩
end Go.Av.Fx
end
section
namespace Go.Av.Fx
open Go Go.Av Go.Av.Tb Go.Proofs
open Go.Fw (Sq ent Bd Mat)
noncomputable def Ek (n : Nat) (S : St) : Env := { E n with base := S.heap.length, bt := S.nt, K := false }
theorem Ek_ok (n : Nat) (S : St) : (Ek n S).Ok := ⟨(E_ok n).T, (E_ok n).M, (E_ok n).Cle, (E_ok n).Y⟩
@[go_sem] theorem Ek_T (n : Nat) (S : St) : (Ek n S).T = T := rfl
@[go_sem] theorem Ek_P (n : Nat) (S : St) : (Ek n S).P = Tryz.prog := rfl
@[go_sem] theorem from_T (E : Env) (S : St) : (E.from S).T = E.T := rfl
@[go_sem] theorem from_P (E : Env) (S : St) : (E.from S).P = E.P := rfl
@[go_sem] theorem eqn20 : binA T .eql 20 .nilIface .nilIface = some (.bool true) := rfl
@[go_sem] theorem eqi20 (t : TypeId) (v : AV) : binA T .eql 20 (.iface t v) .nilIface = some (.bool false) := rfl
@[go_sem] theorem ta174 (v : AV) : typeAssertA T (.iface 174 v) 174 true = some (.tuple [v, .bool true]) := rfl
@[go_sem] theorem ta174n (v : AV) : typeAssertA T (.iface 176 v) 174 true = some (.tuple [.agg [.int .i64 0], .bool false]) := rfl
@[go_sem] theorem ta176 (v : AV) : typeAssertA T (.iface 176 v) 176 true = some (.tuple [v, .bool true]) := rfl
def c141t : MC := (.block 0 (.seq (.region [0, 5, 7] r141_3) (.cond (.tmp 7) (.region [] r141_4) (.seq (.region [0, 5, 9, 10] r141_5) (.cond (.tmp 9) (.seq (.region [0] r141_6) (.region [] r141_7)) (.seq (.region [0, 5, 12, 13] r141_8) (.cond (.tmp 12) (.seq (.region [0] r141_9) (.region [] r141_10)) (.seq (.region [4] r141_1) (.region [] r141_2)))))))))
def caught (b : Nat) (k : Int) (x : AV) (S : St) : St := ⟨setH (S.heap ++ [some (.cells x.cells)]) b (.cells [.int .i64 k]), S.nt, S.toks⟩
theorem cellsAt_app {h : List (Option Blk)} {b : Nat} {l : List AV} (hb : cellsAt h b = some l) (g : List (Option Blk)) : cellsAt (h ++ g) b = some l := by
 unfold cellsAt at hb ⊢
 have : b < h.length := by
  rcases Nat.lt_or_ge b h.length with h' | h'
  ·exact h'
  ·rw [List.getElem?_eq_none h'] at hb; cases hb
 rw [List.getElem?_append_left this]; exact hb
theorem cellsAt_end (h : List (Option Blk)) (l : List AV) : cellsAt (h ++ [some (.cells l)]) h.length = some l := by
 unfold cellsAt; rw [List.getElem?_append_right (Nat.le_refl _), Nat.sub_self]; rfl
theorem setH_end (h : List (Option Blk)) (x : Option Blk) (B : Blk) : setH (h ++ [x]) h.length B = h ++ [some B] := by
 have := setH_app h [x] 0 B
 rw [Nat.add_zero] at this; rw [this]; rfl
theorem try1_none (b : Nat) (S : St) : DC Tryz.prog 141 [.ref b 0] none S fun S' => S' = S := by
 refine DC.run (E := Ek 14 S) (Ek_ok 14 S) mix (fn := Tryz.f141) (mc := c141t) (d := 5) (ks := lk [(0, [0, 5]), (1, [4]), (2, []), (3, [0, 5, 7]), (4, []), (5, [0, 5, 9, 10]), (6, [0]), (7, []), (8, [0, 5, 12, 13]), (9, [0]), (10, [])]) (dm := lk1 []) Tryz.func141 rfl rfl rfl rfl (by kernel_rfl) rfl rfl (Nat.le_of_ble_eq_true rfl) (show 5 < 14 by decide) rfl rfl rfl (fun _ => trivial) rfl ?_
 simp only [go_sem, c141t, Option.getD_none, reduceEqDiff, Nat.reduceBEq, reduceAdd, reduceIte, reduceCtorEq, reduceLeDiff]
theorem try1_174 (b : Nat) (S : St) (p : Int) (hb : cellsAt S.heap b = some [.int .i64 0]) : DC Tryz.prog 141 [.ref b 0] (some (.iface 174 (.agg [.int .i64 p]))) S fun S' => S' = caught b 7 (.agg [.int .i64 p]) S := by
 refine DC.run (E := Ek 14 S) (Ek_ok 14 S) mix (fn := Tryz.f141) (mc := c141t) (d := 5) (ks := lk [(0, [0, 5]), (1, [4]), (2, []), (3, [0, 5, 7]), (4, []), (5, [0, 5, 9, 10]), (6, [0]), (7, []), (8, [0, 5, 12, 13]), (9, [0]), (10, [])]) (dm := lk1 []) Tryz.func141 rfl rfl rfl rfl (by kernel_rfl) rfl rfl (Nat.le_of_ble_eq_true rfl) (show 5 < 14 by decide) rfl rfl rfl (fun _ => trivial) rfl ?_
 have h1 : ∀ g, cellsAt (S.heap ++ g) b = some [.int .i64 0] := cellsAt_app hb
 have h2 := cellsAt_end S.heap
 have h3 := setH_end S.heap
 simp only [go_sem, c141t, Option.getD_some, extractA, put_eq, h1, h2, h3, reduceEqDiff, Nat.reduceBEq, reduceAdd, reduceIte, reduceCtorEq, reduceLeDiff]
 rfl
theorem try1_176 (b : Nat) (S : St) (p : ByteArray) (hb : cellsAt S.heap b = some [.int .i64 0]) : DC Tryz.prog 141 [.ref b 0] (some (.iface 176 (.agg [.str p]))) S fun S' => S' = caught b 4 (.agg [.str p]) S := by
 refine DC.run (E := Ek 14 S) (Ek_ok 14 S) mix (fn := Tryz.f141) (mc := c141t) (d := 5) (ks := lk [(0, [0, 5]), (1, [4]), (2, []), (3, [0, 5, 7]), (4, []), (5, [0, 5, 9, 10]), (6, [0]), (7, []), (8, [0, 5, 12, 13]), (9, [0]), (10, [])]) (dm := lk1 []) Tryz.func141 rfl rfl rfl rfl (by kernel_rfl) rfl rfl (Nat.le_of_ble_eq_true rfl) (show 5 < 14 by decide) rfl rfl rfl (fun _ => trivial) rfl ?_
 have h1 : ∀ g, cellsAt (S.heap ++ g) b = some [.int .i64 0] := cellsAt_app hb
 have h2 := cellsAt_end S.heap
 have h3 := setH_end S.heap
 simp only [go_sem, c141t, Option.getD_some, extractA, put_eq, h1, h2, h3, reduceEqDiff, Nat.reduceBEq, reduceAdd, reduceIte, reduceCtorEq, reduceLeDiff]
 rfl
theorem DC.mono {P : Program} {g : FuncId} {caps : List AV} {pan : Option AV} {S : St} {R R' : St → Prop} (h : DC P g caps pan S R) (hr : ∀ S', R S' → R' S') : DC P g caps pan S R' :=
 fun c w vs u h1 h2 h3 => (h c w vs u h1 h2 h3).mono fun e u' w' ⟨a1, a2, S', c', a3, a4, a5⟩ => ⟨a1, a2, S', c', a3, hr _ a4, a5⟩
@[go_sem] theorem endQ_ret (E : Env) (rs : List ResultVar) (g : FuncId) (caps : List AV) (R : AEnd → St → Prop) (ts : TS) (S : St) : endQ E rs g caps R .ret ts S = DC E.P g caps none S fun S2 => ∃ vs, resA E.T S2 ts rs = some vs ∧ R (.ret (tupA vs)) S2 := rfl
@[go_sem] theorem endQ_panic (E : Env) (rs : List ResultVar) (g : FuncId) (caps : List AV) (R : AEnd → St → Prop) (v : AV) (ts : TS) (S : St) : endQ E rs g caps R (.panic v) ts S = DC E.P g caps (some v) S fun S2 => ∃ vs, resA E.T S2 ts rs = some vs ∧ R (.ret (tupA vs)) S2 := rfl
theorem setH_same : ∀ {h : List (Option Blk)} {b : Nat} {l : List AV}, cellsAt h b = some l → setH h b (.cells l) = h
 | [], b, l, h => by simp [cellsAt] at h
 | x :: h, 0, l, e => by
  simp only [cellsAt, List.getElem?_cons_zero] at e
  show some (.cells l) :: h = _
  split at e
  ·rename_i q hq
   simp only [Option.some.injEq] at hq e; subst e; rw [hq]
  ·cases e
 | x :: h, b + 1, l, e => by
  show x :: setH h b _ = _
  rw [setH_same (h := h) (b := b) (l := l) (by simpa [cellsAt] using e)]
theorem cellsAt_set {h : List (Option Blk)} {b : Nat} {l l' : List AV} (hb : cellsAt h b = some l) (g : List (Option Blk)) : cellsAt (setH (h ++ g) b (.cells l')) b = some l' := by
 have hlt : b < h.length := by
  unfold cellsAt at hb
  rcases Nat.lt_or_ge b h.length with h' | h'
  ·exact h'
  ·rw [List.getElem?_eq_none h'] at hb; cases hb
 have : ∀ (h : List (Option Blk)) (b : Nat), b < h.length → cellsAt (setH h b (.cells l')) b = some l' := by
  intro h
  induction h with
  | nil => intro b hb; simp at hb
  | cons x h ih =>
   intro b hb
   cases b with
   | zero => rfl
   | succ b =>
    have := ih b (by simpa using hb)
    simpa [cellsAt, setH] using this
 exact this _ _ (by simp; omega)
theorem try_ac {S : St} {g : FuncId} {caps : List AV} {R0 R : AEnd → St → Prop} (ng : Callable Tryz.prog g) (hdo : AC Tryz.prog g caps ⟨S.heap ++ [some (.cells [.int .i64 0])], S.nt, S.toks⟩ R0)
  (hret : ∀ v S', R0 (.ret v) S' → cellsAt S'.heap S.heap.length = some [.int .i64 0] ∧ R (.ret (.int .i64 0)) S')
  (hpan : ∀ v S', R0 (.panic v) S' → cellsAt S'.heap S.heap.length = some [.int .i64 0] ∧ ((∃ p : Int, v = .iface 174 (.agg [.int .i64 p]) ∧ R (.ret (.int .i64 7)) (caught S.heap.length 7 (.agg [.int .i64 p]) S')) ∨ (∃ s : ByteArray, v = .iface 176 (.agg [.str s]) ∧ R (.ret (.int .i64 4)) (caught S.heap.length 4 (.agg [.str s]) S')))) :
  AC Tryz.prog 108 [.func (.func g) [] caps] S R := by
 refine AC.deferring (E := Ek 6 S) (Ek_ok 6 S) mix (fn := Tryz.f108) (t := 3) (ma := .region [0, 2] r108_0) (mx := .seq (.region [2] r108_2) (.seq (.region [2] r108_3) .ret)) (ks := lk [(0, [0, 2]), (1, [0, 2]), (2, [2]), (3, [2])]) (dm := lk1 []) Tryz.func108 rfl rfl rfl rfl rfl rfl (by kernel_rfl) (by kernel_rfl) rfl (show 3 < 6 by decide) rfl rfl (Nat.le_of_ble_eq_true rfl) rfl (fun _ => trivial) rfl ?_
 simp only [go_sem, reduceEqDiff, Nat.reduceBEq, reduceAdd, reduceIte, reduceCtorEq, reduceLeDiff]
 refine ⟨141, [.ref S.heap.length 0], rfl, n141, ?_⟩
 refine call_ac (E := (Ek 6 S).from _) ng hdo ?_ ?_
 ·intro v S' hR
  obtain ⟨h1, h2⟩ := hret v S' hR
  have h3 := setH_same h1
  simp only [go_sem, h1, put_eq, h3, Tryz.f108, reduceEqDiff, Nat.reduceBEq, reduceAdd, reduceIte, reduceCtorEq, reduceLeDiff]
  refine DC.mono (try1_none _ _) fun S2 e => ?_
  subst e
  exact ⟨[.int .i64 0], by simp only [go_sem, h1, reduceEqDiff, Nat.reduceBEq, reduceAdd, reduceIte, reduceCtorEq, reduceLeDiff], h2⟩
 ·intro v S' hR
  obtain ⟨h1, h2⟩ := hpan v S' hR
  rcases h2 with ⟨p, rfl, h2⟩ | ⟨p, rfl, h2⟩
  ·refine DC.mono (try1_174 _ _ p h1) fun S2 e => ?_
   subst e
   have hcs : cellsAt (caught S.heap.length 7 (.agg [.int .i64 p]) S').heap S.heap.length = some [.int .i64 7] := cellsAt_set h1 _
   exact ⟨[.int .i64 7], by simp only [go_sem, Tryz.f108, hcs, reduceEqDiff, Nat.reduceBEq, reduceAdd, reduceIte, reduceCtorEq, reduceLeDiff], h2⟩
  ·refine DC.mono (try1_176 _ _ p h1) fun S2 e => ?_
   subst e
   have hcs : cellsAt (caught S.heap.length 4 (.agg [.str p]) S').heap S.heap.length = some [.int .i64 4] := cellsAt_set h1 _
   exact ⟨[.int .i64 4], by simp only [go_sem, Tryz.f108, hcs, reduceEqDiff, Nat.reduceBEq, reduceAdd, reduceIte, reduceCtorEq, reduceLeDiff], h2⟩
theorem Fits1_ac (l : LLine) (h : Ln l) (t : Truth) (ht : truthB l t = true) (S : St) (h0 : cellsAt S.heap 0 = some (lineC l)) (h1 : cellsAt S.heap 1 = some (trC t)) : AC Tryz.prog 116 [.ref 0 0, .ref 1 0] S fun e S' =>
  ((e = .ret (.tuple []) ∧ fitsT l t = true) ∨ (∃ p : Int, e = .panic (.iface 174 (.agg [.int .i64 p])) ∧ fitsT l t = false)) ∧ S' = S := by
 refine AC.run (Es_ok 5 S) mix Tryz.func116 m116 rfl rfl rfl (Nat.le_of_ble_eq_true rfl) ?_
 simp only [go_sem, h0, h1, reduceEqDiff, Nat.reduceBEq, reduceAdd, reduceIte, reduceCtorEq, reduceLeDiff]
 refine call_ac (E := Es 5 S) n117 (follow_ac l h t ht S) ?_ ?_
 ·rintro v S' ⟨⟨v', hv, hf, rfl⟩ | ⟨v', hv, _⟩, rfl⟩
  ·cases hv
   simp only [go_sem, Tryz.f116, reduceEqDiff, Nat.reduceBEq, reduceAdd, reduceIte, reduceCtorEq, reduceLeDiff]
   exact ⟨.inl ⟨rfl, hf⟩, trivial⟩
  ·cases hv
 ·rintro v S' ⟨⟨v', hv, _⟩ | ⟨v', hv, hf, p, rfl⟩, rfl⟩
  ·cases hv
  ·cases hv
   exact ⟨.inr ⟨p, rfl, hf⟩, rfl⟩
def fitsA (l : LLine) (t : Truth) : AV := if isLineB l = true then (if truthB l t = true then .tuple [.bool (fitsT l t), .int .i64 0] else .tuple [.bool false, .int .i64 2]) else .tuple [.bool false, .int .i64 2]
theorem fitsA_bnd (l : LLine) (t : Truth) : (fitsA l t).bnd 0 0 = true := by
 unfold fitsA
 repeat' split
 all_goals rfl
theorem Fits_pc (l : LLine) (ok : okLine l) (t : Truth) (hl : okL t.losses.length) : PC Tryz.prog 66 [lineA l, .agg (trC t)] (.pure (fitsA l t)) := by
 refine PC.of_empty (AC.run (E_ok _) mix Tryz.func66 m66 rfl rfl rfl (Nat.le_of_ble_eq_true rfl) ?_) (by simp [bndL, AV.bnd]) (fitsA_bnd l t)
 unfold fitsA
 simp only [go_sem, boxA, reduceEqDiff, Nat.reduceBEq, reduceAdd, reduceIte, reduceCtorEq, reduceLeDiff]
 refine cp n82 (isLine_pc l ok) (SubL.refl _) ?_
 cases h : isLineB l
 ·simp only [go_sem, un_not, Bool.not_false, Tryz.f66, reduceEqDiff, Nat.reduceBEq, reduceAdd, reduceIte, reduceCtorEq, reduceLeDiff]
 ·simp only [go_sem, un_not, Bool.not_true, reduceEqDiff, Nat.reduceBEq, reduceAdd, reduceIte, reduceCtorEq, reduceLeDiff]
  refine cp n115 (isTruth_pc l t hl) (SubL.refl _) ?_
  cases ht : truthB l t
  ·simp only [go_sem, un_not, Bool.not_false, Tryz.f66, reduceEqDiff, Nat.reduceBEq, reduceAdd, reduceIte, reduceCtorEq, reduceLeDiff]
  ·simp only [go_sem, un_not, Bool.not_true, reduceEqDiff, Nat.reduceBEq, reduceAdd, reduceIte, reduceCtorEq, reduceLeDiff]
   refine cac n108 (try_ac (R0 := fun e S' => ((e = .ret (.tuple []) ∧ fitsT l t = true) ∨ (∃ p : Int, e = .panic (.iface 174 (.agg [.int .i64 p])) ∧ fitsT l t = false)) ∧ S' = _) (R := fun e S' => ∃ k : Int, e = .ret (.int .i64 k) ∧ decide (k = 0) = fitsT l t) n116 (Fits1_ac l (isLine_iff.1 h) t ht _ rfl rfl) ?_ ?_) ?_ ?_
   ·rintro v S' ⟨⟨hv, hf⟩ | ⟨p, hv, _⟩, rfl⟩
    ·exact ⟨rfl, 0, rfl, by rw [hf]; rfl⟩
    ·cases hv
   ·rintro v S' ⟨⟨hv, hf⟩ | ⟨p, hv, hf⟩, rfl⟩
    ·cases hv
    ·cases hv
     exact ⟨rfl, .inl ⟨p, rfl, 7, rfl, by rw [hf]; rfl⟩⟩
   ·rintro v S' ⟨k, hv, hk⟩
    cases hv
    simp only [go_sem, hk, Tryz.f66, reduceEqDiff, Nat.reduceBEq, reduceAdd, reduceIte, reduceCtorEq, reduceLeDiff]
   ·rintro v S' ⟨k, hv, hk⟩
    cases hv
end Go.Av.Fx
end
section
namespace Go.Av.Fx
open Go Go.Av Go.Av.Tb Go.Proofs
open Go.Fw (Sq ent Bd Mat)
end Go.Av.Fx
end
section
namespace Go.Av.Fx
open Go Go.Av Go.Av.Tb Go.Proofs
open Go.Fw (Sq ent Bd Mat)
@[go_sem] theorem bs114 (i o n c : Nat) : buildSliceA T 114 1 [(0, .sref i o n c)] = some (.slice [.sref i o n c] 1 .exact) := rfl
end Go.Av.Fx
end
section
namespace Go.Av.Fx
open Go Go.Av Go.Av.Tb Go.Proofs
open Go.Fw (Sq ent Bd Mat upd row stage upto)
theorem AC.args {P : Program} {f : FuncId} {args args' : List AV} {S : St} {R : AEnd → St → Prop} (h : AC P f args' S R) (hs : SubL args args') : AC P f args S R :=
 fun c w vs h1 h2 => h c w vs h1 (hs c vs h2)
end Go.Av.Fx
end
section
namespace Go.Av.Fx
open Go Go.Av Go.Av.Tb Go.Proofs
open Go.Fw (Sq ent Bd Mat upd row stage upto)
end Go.Av.Fx
end
section
namespace Go.Proofs
open Go.Shelf
def Tryz.lays156_ren : Go.Shelf.Ren := ⟨fun | 156 => 140 | 165 => 156 | 166 => 157 | 169 => 158 | 240 => 164 | 241 => 165 | 276 => 175 | 277 => 176 | n => n, fun | 31 => 141 | 9 => 9 | 3 => 3 | 4 => 4 | 0 => 0 | 20 => 20 | 72 => 197 | 76 => 201 | 70 => 195 | 37 => 93 | 75 => 200 | 127 => 209 | 164 => 223 | 5 => 5 | 80 => 203 | n => n, fun | n => n⟩
theorem Tryz.lays156 : Go.Proofs.Lays.n156 Tryz.prog Tryz.lays156_ren := {
 mixed := by kernel_rfl
 f156 := Tryz.func140.trans (congrArg some (by kernel_rfl))
 f165 := Tryz.func156.trans (congrArg some (by kernel_rfl))
 f166 := Tryz.func157.trans (congrArg some (by kernel_rfl))
 f169 := Tryz.func158.trans (congrArg some (by kernel_rfl))
 f240 := Tryz.func164.trans (congrArg some (by kernel_rfl))
 f241 := Tryz.func165.trans (congrArg some (by kernel_rfl))
 f276 := Tryz.func175.trans (congrArg some (by kernel_rfl))
 f277 := Tryz.func176.trans (congrArg some (by kernel_rfl))
 t0 := Tryz.underlying0
 a0 := Tryz.isAgg0
 z0 := Tryz.sizeOf0
 v0 := Tryz.zeroValue0
 t3 := Tryz.underlying3
 a3 := Tryz.isAgg3
 z3 := Tryz.sizeOf3
 v3 := Tryz.zeroValue3
 t4 := Tryz.underlying4
 a4 := Tryz.isAgg4
 z4 := Tryz.sizeOf4
 v4 := Tryz.zeroValue4
 t9 := Tryz.underlying9
 a9 := Tryz.isAgg9
 z9 := Tryz.sizeOf9
 v9 := Tryz.zeroValue9
 t20 := Tryz.underlying20
 a20 := Tryz.isAgg20
 z20 := Tryz.sizeOf20
 v20 := Tryz.zeroValue20
 t31 := Tryz.underlying141
 a31 := Tryz.isAgg141
 z31 := Tryz.sizeOf141
 v31 := Tryz.zeroValue141
 t37 := Tryz.underlying93
 a37 := Tryz.isAgg93
 z37 := Tryz.sizeOf93
 v37 := Tryz.zeroValue93
 t70 := Tryz.underlying195
 a70 := Tryz.isAgg195
 z70 := Tryz.sizeOf195
 v70 := Tryz.zeroValue195
 t72 := Tryz.underlying197
 a72 := Tryz.isAgg197
 z72 := Tryz.sizeOf197
 v72 := Tryz.zeroValue197
 t75 := Tryz.underlying200
 a75 := Tryz.isAgg200
 z75 := Tryz.sizeOf200
 v75 := Tryz.zeroValue200
 t76 := Tryz.underlying201
 a76 := Tryz.isAgg201
 z76 := Tryz.sizeOf201
 v76 := Tryz.zeroValue201
 t127 := Tryz.underlying209
 a127 := Tryz.isAgg209
 z127 := Tryz.sizeOf209
 v127 := Tryz.zeroValue209
 t164 := Tryz.underlying223
 a164 := Tryz.isAgg223
 z164 := Tryz.sizeOf223
 v164 := Tryz.zeroValue223 }
theorem Tryz.Builder_Extra_156 : Builder.Extra Tryz.prog Tryz.lays156_ren := {
 sizeBuilder := by kernel_rfl
 liesBuilder := by kernel_rfl
 t5 := Tryz.underlying5
 a5 := Tryz.isAgg5
 z5 := Tryz.sizeOf5
 v5 := Tryz.zeroValue5
 infoByte := by kernel_rfl
 cellsByte := by kernel_rfl
 sizeByte := by kernel_rfl
 neB5 := by decide }
open Go.RowKit in
theorem Tryz.strings_Join_none (a : Option Addr) (c : Nat) (sep : ByteArray) (w : World) :
  Calls Tryz.prog 140 #[.slice a 0 c, .string sep] w fun e w' => e = .returned (.string ⟨#[]⟩) ∧ w' = w := Any.strings_Join_none Tryz.lays156 Tryz.Builder_Extra_156 a c sep w
open Go.RowKit in
theorem Tryz.strings_Join (bk o c : Nat) (xs : List ByteArray) (sep : ByteArray) (w : World) (hcells : ∀ (j : Nat) x, xs[j]? = some x → w.cell? ⟨bk, o + j, none⟩ = some (.string x)) (hbk : bk < w.heap.size) (hN : xs.length ≤ 140737488355328) (hcap : xs.length ≤ c) (hlen : (Lib.join (xs.map (·.data.toList)) sep.data.toList).length ≤ 140737488355328) :
  Calls Tryz.prog 140 #[.slice (some ⟨bk, o, none⟩) xs.length c, .string sep] w fun e w' => e = .returned (.string ⟨(Lib.join (xs.map (·.data.toList)) sep.data.toList).toArray⟩) ∧ Below w.heap.size w w' := Any.strings_Join Tryz.lays156 Tryz.Builder_Extra_156 bk o c xs sep w hcells hbk hN hcap hlen
def Tryz.laysM171_ren : Go.Shelf.Ren := ⟨fun | 171 => 139 | 243 => 155 | 246 => 163 | 283 => 171 | 284 => 172 | 285 => 173 | 286 => 174 | 129 => 182 | 317 => 181 | 318 => 183 | 319 => 184 | 320 => 185 | 337 => 191 | 338 => 192 | n => n, fun | 3 => 3 | 9 => 9 | 2 => 2 | 4 => 4 | 171 => 218 | 0 => 0 | 53 => 215 | 37 => 93 | 5 => 5 | 173 => 221 | 212 => 232 | 51 => 212 | 20 => 20 | 213 => 233 | 46 => 205 | 232 => 241 | 233 => 242 | n => n, fun | 17 => 0 | 18 => 4 | 19 => 5 | n => n⟩
theorem Tryz.laysM171 : Go.Proofs.LaysM.n171 Tryz.prog Tryz.laysM171_ren := {
 mixed := by kernel_rfl
 f129 := Tryz.func182.trans (congrArg some (by kernel_rfl))
 f171 := Tryz.func139.trans (congrArg some (by kernel_rfl))
 f243 := Tryz.func155.trans (congrArg some (by kernel_rfl))
 f246 := Tryz.func163.trans (congrArg some (by kernel_rfl))
 f283 := Tryz.func171.trans (congrArg some (by kernel_rfl))
 f284 := Tryz.func172.trans (congrArg some (by kernel_rfl))
 f285 := Tryz.func173.trans (congrArg some (by kernel_rfl))
 f286 := Tryz.func174.trans (congrArg some (by kernel_rfl))
 f317 := Tryz.func181.trans (congrArg some (by kernel_rfl))
 f318 := Tryz.func183.trans (congrArg some (by kernel_rfl))
 f319 := Tryz.func184.trans (congrArg some (by kernel_rfl))
 f320 := Tryz.func185.trans (congrArg some (by kernel_rfl))
 f337 := Tryz.func191.trans (congrArg some (by kernel_rfl))
 f338 := Tryz.func192.trans (congrArg some (by kernel_rfl))
 t0 := Tryz.underlying0
 a0 := Tryz.isAgg0
 z0 := Tryz.sizeOf0
 v0 := Tryz.zeroValue0
 t2 := Tryz.underlying2
 a2 := Tryz.isAgg2
 z2 := Tryz.sizeOf2
 v2 := Tryz.zeroValue2
 t3 := Tryz.underlying3
 a3 := Tryz.isAgg3
 z3 := Tryz.sizeOf3
 v3 := Tryz.zeroValue3
 t4 := Tryz.underlying4
 a4 := Tryz.isAgg4
 z4 := Tryz.sizeOf4
 v4 := Tryz.zeroValue4
 t5 := Tryz.underlying5
 a5 := Tryz.isAgg5
 z5 := Tryz.sizeOf5
 v5 := Tryz.zeroValue5
 t9 := Tryz.underlying9
 a9 := Tryz.isAgg9
 z9 := Tryz.sizeOf9
 v9 := Tryz.zeroValue9
 t20 := Tryz.underlying20
 a20 := Tryz.isAgg20
 z20 := Tryz.sizeOf20
 v20 := Tryz.zeroValue20
 t37 := Tryz.underlying93
 a37 := Tryz.isAgg93
 z37 := Tryz.sizeOf93
 v37 := Tryz.zeroValue93
 t46 := Tryz.underlying205
 a46 := Tryz.isAgg205
 z46 := Tryz.sizeOf205
 v46 := Tryz.zeroValue205
 t51 := Tryz.underlying212
 a51 := Tryz.isAgg212
 z51 := Tryz.sizeOf212
 v51 := Tryz.zeroValue212
 t53 := Tryz.underlying215
 a53 := Tryz.isAgg215
 z53 := Tryz.sizeOf215
 v53 := Tryz.zeroValue215
 t171 := Tryz.underlying218
 a171 := Tryz.isAgg218
 z171 := Tryz.sizeOf218
 v171 := Tryz.zeroValue218
 t173 := Tryz.underlying221
 a173 := Tryz.isAgg221
 z173 := Tryz.sizeOf221
 v173 := Tryz.zeroValue221
 t212 := Tryz.underlying232
 a212 := Tryz.isAgg232
 z212 := Tryz.sizeOf232
 v212 := Tryz.zeroValue232
 t213 := Tryz.underlying233
 a213 := Tryz.isAgg233
 z213 := Tryz.sizeOf233
 t232 := Tryz.underlying241
 a232 := Tryz.isAgg241
 z232 := Tryz.sizeOf241
 v232 := Tryz.zeroValue241
 t233 := Tryz.underlying242
 a233 := Tryz.isAgg242
 z233 := Tryz.sizeOf242
 v233 := Tryz.zeroValue242
 g17 := by kernel_rfl
 g18 := by kernel_rfl
 g19 := by kernel_rfl
 i0 := by kernel_rfl
 i2 := by kernel_rfl
 i3 := by kernel_rfl
 i4 := by kernel_rfl
 i5 := by kernel_rfl
 i9 := by kernel_rfl
 i20 := by kernel_rfl
 i37 := by kernel_rfl
 i46 := by kernel_rfl
 i51 := by kernel_rfl
 i53 := by kernel_rfl
 i171 := by kernel_rfl
 i173 := by kernel_rfl
 i212 := by kernel_rfl
 i232 := by kernel_rfl
 i233 := by kernel_rfl
 m17 := by kernel_rfl
 m18 := by kernel_rfl
 m19 := by kernel_rfl }
open Go.RowKit Go.Sort Go.Lib in
theorem Tryz.strconv_Itoa (n : Int) (h0 : -9223372036854775808 ≤ n) (h1 : n ≤ 9223372036854775807) (w : World) (htab : Lib.TabIs Tryz.prog w "internal/strconv.uint64pow10" .u64 Lib.pow10Tab) :
  Calls Tryz.prog 139 #[.int .i64 n] w fun e w' => e = .returned (.string ⟨(Lib.itoa n).toArray⟩) ∧ ∃ k os, w' = grow (w.drewN k) os := Any.strconv_Itoa Tryz.laysM171 n h0 h1 w htab
def Tryz.lays143_ren : Go.Shelf.Ren := ⟨fun | 143 => 168 | 219 => 180 | 217 => 187 | 225 => 188 | 224 => 189 | 267 => 190 | 266 => 193 | 314 => 194 | n => n, fun | 9 => 9 | 3 => 3 | 4 => 4 | 5 => 5 | 46 => 205 | 146 => 213 | 51 => 212 | n => n, fun | 1 => 1 | n => n⟩
theorem Tryz.lays143 : Go.Proofs.Lays.n143 Tryz.prog Tryz.lays143_ren := {
 mixed := by kernel_rfl
 f143 := Tryz.func168.trans (congrArg some (by kernel_rfl))
 f217 := Tryz.func187.trans (congrArg some (by kernel_rfl))
 f219 := Tryz.func180.trans (congrArg some (by kernel_rfl))
 f224 := Tryz.func189.trans (congrArg some (by kernel_rfl))
 f225 := Tryz.func188.trans (congrArg some (by kernel_rfl))
 f266 := Tryz.func193.trans (congrArg some (by kernel_rfl))
 f267 := Tryz.func190.trans (congrArg some (by kernel_rfl))
 f314 := Tryz.func194.trans (congrArg some (by kernel_rfl))
 t3 := Tryz.underlying3
 a3 := Tryz.isAgg3
 z3 := Tryz.sizeOf3
 v3 := Tryz.zeroValue3
 t4 := Tryz.underlying4
 a4 := Tryz.isAgg4
 z4 := Tryz.sizeOf4
 v4 := Tryz.zeroValue4
 t5 := Tryz.underlying5
 a5 := Tryz.isAgg5
 z5 := Tryz.sizeOf5
 v5 := Tryz.zeroValue5
 t9 := Tryz.underlying9
 a9 := Tryz.isAgg9
 z9 := Tryz.sizeOf9
 v9 := Tryz.zeroValue9
 t46 := Tryz.underlying205
 a46 := Tryz.isAgg205
 z46 := Tryz.sizeOf205
 v46 := Tryz.zeroValue205
 t51 := Tryz.underlying212
 a51 := Tryz.isAgg212
 z51 := Tryz.sizeOf212
 v51 := Tryz.zeroValue212
 t146 := Tryz.underlying213
 a146 := Tryz.isAgg213
 z146 := Tryz.sizeOf213
 v146 := Tryz.zeroValue213
 g1 := by kernel_rfl }
open Go.RowKit Go.Lib in
theorem Tryz.strings_Index_one (s : ByteArray) (c : UInt8) (w : World) :
  Calls Tryz.prog 168 #[.string s, .string ⟨#[c]⟩] w fun e w' => e = .returned (.int .i64 (Lib.indexByte s.data.toList c)) ∧ w' = w := Any.strings_Index_one Tryz.lays143 s c w
def Tryz.lays138_ren : Go.Shelf.Ren := ⟨fun | 138 => 167 | 195 => 177 | 218 => 179 | 143 => 168 | 219 => 180 | 217 => 187 | 225 => 188 | 224 => 189 | 267 => 190 | 266 => 193 | 314 => 194 | n => n, fun | 9 => 9 | 3 => 3 | 4 => 4 | 5 => 5 | 0 => 0 | 46 => 205 | 146 => 213 | 51 => 212 | n => n, fun | 1 => 1 | n => n⟩
theorem Tryz.lays138 : Go.Proofs.Lays.n138 Tryz.prog Tryz.lays138_ren := {
 mixed := by kernel_rfl
 f138 := Tryz.func167.trans (congrArg some (by kernel_rfl))
 f143 := Tryz.func168.trans (congrArg some (by kernel_rfl))
 f195 := Tryz.func177.trans (congrArg some (by kernel_rfl))
 f217 := Tryz.func187.trans (congrArg some (by kernel_rfl))
 f218 := Tryz.func179.trans (congrArg some (by kernel_rfl))
 f219 := Tryz.func180.trans (congrArg some (by kernel_rfl))
 f224 := Tryz.func189.trans (congrArg some (by kernel_rfl))
 f225 := Tryz.func188.trans (congrArg some (by kernel_rfl))
 f266 := Tryz.func193.trans (congrArg some (by kernel_rfl))
 f267 := Tryz.func190.trans (congrArg some (by kernel_rfl))
 f314 := Tryz.func194.trans (congrArg some (by kernel_rfl))
 t0 := Tryz.underlying0
 a0 := Tryz.isAgg0
 z0 := Tryz.sizeOf0
 v0 := Tryz.zeroValue0
 t3 := Tryz.underlying3
 a3 := Tryz.isAgg3
 z3 := Tryz.sizeOf3
 v3 := Tryz.zeroValue3
 t4 := Tryz.underlying4
 a4 := Tryz.isAgg4
 z4 := Tryz.sizeOf4
 v4 := Tryz.zeroValue4
 t5 := Tryz.underlying5
 a5 := Tryz.isAgg5
 z5 := Tryz.sizeOf5
 v5 := Tryz.zeroValue5
 t9 := Tryz.underlying9
 a9 := Tryz.isAgg9
 z9 := Tryz.sizeOf9
 v9 := Tryz.zeroValue9
 t46 := Tryz.underlying205
 a46 := Tryz.isAgg205
 z46 := Tryz.sizeOf205
 v46 := Tryz.zeroValue205
 t51 := Tryz.underlying212
 a51 := Tryz.isAgg212
 z51 := Tryz.sizeOf212
 v51 := Tryz.zeroValue212
 t146 := Tryz.underlying213
 a146 := Tryz.isAgg213
 z146 := Tryz.sizeOf213
 v146 := Tryz.zeroValue213
 g1 := by kernel_rfl }
open Go.RowKit Go.Lib in
theorem Tryz.strings_Count_one (s : ByteArray) (c : UInt8) (w : World) :
  Calls Tryz.prog 167 #[.string s, .string ⟨#[c]⟩] w fun e w' => e = .returned (.int .i64 (Lib.countByte s.data.toList c)) ∧ w' = w := Any.strings_Count_one Tryz.lays138 s c w
def Tryz.lays99_ren : Go.Shelf.Ren := ⟨fun | 99 => 145 | 206 => 160 | n => n, fun | 9 => 9 | 4 => 4 | 3 => 3 | n => n, fun | n => n⟩
theorem Tryz.lays99 : Go.Proofs.Lays.n99 Tryz.prog Tryz.lays99_ren := {
 mixed := by kernel_rfl
 f99 := Tryz.func145.trans (congrArg some (by kernel_rfl))
 f206 := Tryz.func160.trans (congrArg some (by kernel_rfl))
 t3 := Tryz.underlying3
 a3 := Tryz.isAgg3
 z3 := Tryz.sizeOf3
 v3 := Tryz.zeroValue3
 t4 := Tryz.underlying4
 a4 := Tryz.isAgg4
 z4 := Tryz.sizeOf4
 v4 := Tryz.zeroValue4
 t9 := Tryz.underlying9
 a9 := Tryz.isAgg9
 z9 := Tryz.sizeOf9
 v9 := Tryz.zeroValue9 }
open Go.RowKit Go.Lib in
theorem Tryz.strings_HasPrefix (s p : ByteArray) (w : World) :
  Calls Tryz.prog 145 #[.string s, .string p] w fun e w' => e = .returned (.bool (Lib.hasPrefix s.data.toList p.data.toList)) ∧ w' = w := Any.strings_HasPrefix Tryz.lays99 s p w
def Tryz.lays221_ren : Go.Shelf.Ren := ⟨fun | 221 => 159 | 268 => 166 | 138 => 167 | 143 => 168 | 195 => 177 | 197 => 178 | 218 => 179 | 219 => 180 | 260 => 186 | 217 => 187 | 225 => 188 | 224 => 189 | 267 => 190 | 266 => 193 | 314 => 194 | n => n, fun | 9 => 9 | 3 => 3 | 31 => 141 | 4 => 4 | 0 => 0 | 105 => 227 | 21 => 21 | 5 => 5 | 46 => 205 | 119 => 236 | 139 => 239 | 138 => 238 | 146 => 213 | 51 => 212 | n => n, fun | 1 => 1 | 3 => 2 | 4 => 3 | n => n⟩
theorem Tryz.lays221 : Go.Proofs.Lays.n221 Tryz.prog Tryz.lays221_ren := {
 mixed := by kernel_rfl
 f138 := Tryz.func167.trans (congrArg some (by kernel_rfl))
 f143 := Tryz.func168.trans (congrArg some (by kernel_rfl))
 f195 := Tryz.func177.trans (congrArg some (by kernel_rfl))
 f197 := Tryz.func178.trans (congrArg some (by kernel_rfl))
 f217 := Tryz.func187.trans (congrArg some (by kernel_rfl))
 f218 := Tryz.func179.trans (congrArg some (by kernel_rfl))
 f219 := Tryz.func180.trans (congrArg some (by kernel_rfl))
 f221 := Tryz.func159.trans (congrArg some (by kernel_rfl))
 f224 := Tryz.func189.trans (congrArg some (by kernel_rfl))
 f225 := Tryz.func188.trans (congrArg some (by kernel_rfl))
 f260 := Tryz.func186.trans (congrArg some (by kernel_rfl))
 f266 := Tryz.func193.trans (congrArg some (by kernel_rfl))
 f267 := Tryz.func190.trans (congrArg some (by kernel_rfl))
 f268 := Tryz.func166.trans (congrArg some (by kernel_rfl))
 f314 := Tryz.func194.trans (congrArg some (by kernel_rfl))
 t0 := Tryz.underlying0
 a0 := Tryz.isAgg0
 z0 := Tryz.sizeOf0
 v0 := Tryz.zeroValue0
 t3 := Tryz.underlying3
 a3 := Tryz.isAgg3
 z3 := Tryz.sizeOf3
 v3 := Tryz.zeroValue3
 t4 := Tryz.underlying4
 a4 := Tryz.isAgg4
 z4 := Tryz.sizeOf4
 v4 := Tryz.zeroValue4
 t5 := Tryz.underlying5
 a5 := Tryz.isAgg5
 z5 := Tryz.sizeOf5
 v5 := Tryz.zeroValue5
 t9 := Tryz.underlying9
 a9 := Tryz.isAgg9
 z9 := Tryz.sizeOf9
 v9 := Tryz.zeroValue9
 t21 := Tryz.underlying21
 a21 := Tryz.isAgg21
 z21 := Tryz.sizeOf21
 v21 := Tryz.zeroValue21
 t31 := Tryz.underlying141
 a31 := Tryz.isAgg141
 z31 := Tryz.sizeOf141
 v31 := Tryz.zeroValue141
 t46 := Tryz.underlying205
 a46 := Tryz.isAgg205
 z46 := Tryz.sizeOf205
 v46 := Tryz.zeroValue205
 t51 := Tryz.underlying212
 a51 := Tryz.isAgg212
 z51 := Tryz.sizeOf212
 v51 := Tryz.zeroValue212
 t105 := Tryz.underlying227
 a105 := Tryz.isAgg227
 z105 := Tryz.sizeOf227
 v105 := Tryz.zeroValue227
 t119 := Tryz.underlying236
 a119 := Tryz.isAgg236
 z119 := Tryz.sizeOf236
 t138 := Tryz.underlying238
 a138 := Tryz.isAgg238
 z138 := Tryz.sizeOf238
 v138 := Tryz.zeroValue238
 t139 := Tryz.underlying239
 a139 := Tryz.isAgg239
 z139 := Tryz.sizeOf239
 v139 := Tryz.zeroValue239
 t146 := Tryz.underlying213
 a146 := Tryz.isAgg213
 z146 := Tryz.sizeOf213
 v146 := Tryz.zeroValue213
 g1 := by kernel_rfl
 g3 := by kernel_rfl
 g4 := by kernel_rfl }
end Go.Proofs
end
section
namespace Go.Av
open Go Go.Proofs Go.RowKit Go.Sort
theorem Chg.below {w w' : World} (h : Below w.heap.size w w') : Chg w w' (fun _ _ => False) (fun _ => False) := by
  have cell : ∀ b o v, w.cell? ⟨b, o, none⟩ = some v → w'.cell? ⟨b, o, none⟩ = some v := fun b o v e => by
    have hb := cell?_isSome_lt e
    unfold World.cell? at e ⊢
    rw [h.block b hb]; exact e
  refine ⟨fun b o v e _ => cell b o v e, fun b o v e => ⟨v, cell b o v e⟩, fun b o hb => ?_, fun b ob e _ _ => ?_, h.size, fun b x e => ?_, ⟨h.os, h.output, fun b cs t fr e => ⟨cs, by rw [h.block b (Array.getElem?_eq_some_iff.1 e).1]; exact e, rfl⟩⟩⟩
  · unfold World.frozen?; rw [h.block b hb]
  · rw [h.block b (Array.getElem?_eq_some_iff.1 e).1]; exact e
  · have hb : b < w.heap.size := by
      rcases Nat.lt_or_ge b w.heap.size with h' | h'
      · exact h'
      · unfold World.shape? at e; rw [Array.getElem?_eq_none h'] at e; cases e
    unfold World.shape? at e ⊢
    rw [h.block b hb]; exact e
theorem StRel.below {c : Cx} {S : St} {w w' : World} (h : StRel c S w) (hb : Below w.heap.size w w') : StRel c S w' :=
  h.chg (Chg.below hb) (fun _ _ e => e.elim) (fun _ e => e.elim) (fun _ _ _ _ _ => ⟨fun _ _ e => e, fun _ e => e⟩)
theorem StRel.grow {c : Cx} {S : St} {w : World} (h : StRel c S w) (k : Nat) (os : Array Obj) : StRel c S (grow (w.drewN k) os) := by
  have h0 : (w.drewN k).heap = w.heap := rfl
  have hb : ∀ b, b < w.heap.size → (Go.Sort.grow (w.drewN k) os).heap[b]? = w.heap[b]? := fun b hb => by
    show (w.heap ++ os)[b]? = _
    exact Array.getElem?_append_left hb
  have cell : ∀ b o v, w.cell? ⟨b, o, none⟩ = some v → (Go.Sort.grow (w.drewN k) os).cell? ⟨b, o, none⟩ = some v := fun b o v e => by
    have hl := cell?_isSome_lt e
    unfold World.cell? at e ⊢
    rw [hb b hl]; exact e
  refine h.chg (R := fun _ _ => False) (RO := fun _ => False) ⟨fun b o v e _ => cell b o v e, fun b o v e => ⟨v, cell b o v e⟩, fun b o hl => ?_, fun b ob e _ _ => ?_, ?_, fun b x e => ?_, ⟨rfl, rfl, fun b cs t fr e => ⟨cs, by rw [hb b (Array.getElem?_eq_some_iff.1 e).1]; exact e, rfl⟩⟩⟩ (fun _ _ e => e.elim) (fun _ e => e.elim) (fun _ _ _ _ _ => ⟨fun _ _ e => e, fun _ e => e⟩)
  · unfold World.frozen?; rw [hb b hl]
  · rw [hb b (Array.getElem?_eq_some_iff.1 e).1]; exact e
  · show w.heap.size ≤ (w.heap ++ os).size
    simp
  · have hl : b < w.heap.size := by
      rcases Nat.lt_or_ge b w.heap.size with h' | h'
      · exact h'
      · unfold World.shape? at e; rw [Array.getElem?_eq_none h'] at e; cases e
    unfold World.shape? at e ⊢
    rw [hb b hl]; exact e
theorem StRel.tabIs {c : Cx} {S : St} {w : World} (h : StRel c S w) : Lib.TabIs Tryz.prog w "internal/strconv.uint64pow10" .u64 Lib.pow10Tab := by
  have hg : Tryz.prog.globalNamed "internal/strconv.uint64pow10" = some tabB := by kernel_rfl
  obtain ⟨t, ht⟩ := h.tsh
  unfold Lib.TabIs World.var?
  rw [hg]
  unfold World.shape? at ht
  show (match w.heap[tabB]? with | some (.cells cs _ _) => some cs | _ => none) = _
  cases hw : w.heap[tabB]? with
  | none => rw [hw] at ht; cases ht
  | some ob =>
    rw [hw] at ht
    cases ob <;> simp at ht ⊢
    rename_i cs e f
    obtain ⟨_, hs⟩ := ht
    apply Array.ext
    · simp [hs, Lib.pow10Tab]
    · intro i h1 h2
      have hi : i < 20 := hs ▸ h1
      have hk := h.K _ _ _ (h.tab i hi)
      unfold World.cell? at hk
      simp only [hw] at hk
      simp at hk
      rw [Array.getElem?_eq_getElem h1] at hk
      simp only [Option.some.injEq] at hk
      rw [hk]
      simp [tabV, Lib.pow10Tab]
theorem VRel.of_str {c : Cx} {s : ByteArray} {x : Value} (h : VRel c (.str s) x) : x = .string s := by cases h; rfl
theorem VRel.of_int {c : Cx} {k : IntKind} {n : Int} {x : Value} (h : VRel c (.int k n) x) : x = .int k n := by cases h; rfl
theorem LRel.one {c : Cx} {x : AV} {vs : List Value} (h : LRel c [x] vs) : ∃ v, vs = [v] ∧ VRel c x v := by
  obtain ⟨v, vs', rfl, h1, h2⟩ := h.tail
  cases vs' with
  | nil => exact ⟨v, rfl, h1⟩
  | cons a b => simp [LRel] at h2
theorem LRel.two {c : Cx} {x y : AV} {vs : List Value} (h : LRel c [x, y] vs) : ∃ u v, vs = [u, v] ∧ VRel c x u ∧ VRel c y v := by
  obtain ⟨u, vs', rfl, h1, h2⟩ := h.tail
  obtain ⟨v, rfl, h3⟩ := h2.one
  exact ⟨u, v, rfl, h1, h3⟩
theorem LRel.four {c : Cx} {a b x y : AV} {vs : List Value} (h : LRel c [a, b, x, y] vs) : ∃ t s u v, vs = [t, s, u, v] ∧ VRel c a t ∧ VRel c b s ∧ VRel c x u ∧ VRel c y v := by
  obtain ⟨t, vs', rfl, h1, h2⟩ := h.tail
  obtain ⟨s, vs'', rfl, h3, h4⟩ := h2.tail
  obtain ⟨u, v, rfl, h5, h6⟩ := h4.two
  exact ⟨t, s, u, v, rfl, h1, h3, h5, h6⟩
def itoaB (n : Int) : ByteArray := ⟨(Lib.itoa n).toArray⟩
theorem Itoa_pc (n : Int) (h0 : -9223372036854775808 ≤ n) (h1 : n ≤ 9223372036854775807) : PC Tryz.prog 139 [.int .i64 n] (.pure (.str (itoaB n))) := by
  intro c S w vs hs hl
  obtain ⟨v, rfl, hv⟩ := hl.one
  cases hv.of_int
  refine (Tryz.strconv_Itoa n h0 h1 w hs.tabIs).mono ?_
  rintro e w' ⟨rfl, k, os, rfl⟩
  exact ⟨_, rfl, c, Cx.le.refl c, rfl, rfl, hs.grow k os, .str _⟩
theorem HasPrefix_pc (s p : ByteArray) : PC Tryz.prog 145 [.str s, .str p] (.pure (.bool (Lib.hasPrefix s.data.toList p.data.toList))) := by
  intro c S w vs hs hl
  obtain ⟨u, v, rfl, hu, hv⟩ := hl.two
  cases hu.of_str; cases hv.of_str
  refine (Tryz.strings_HasPrefix s p w).mono ?_
  rintro e w' ⟨rfl, rfl⟩
  exact ⟨_, rfl, Post.same hs (.bool _)⟩
def joinB (xs : List ByteArray) (sep : ByteArray) : ByteArray := ⟨(Lib.join (xs.map (·.data.toList)) sep.data.toList).toArray⟩
theorem Join_pc (xs : List ByteArray) (sep : ByteArray) (t : Tail) (hN : xs.length ≤ 140737488355328) (hlen : (Lib.join (xs.map (·.data.toList)) sep.data.toList).length ≤ 140737488355328) :
    PC Tryz.prog 140 [.slice (xs.map AV.str) xs.length t, .str sep] (.pure (.str (joinB xs sep))) := by
  intro c S w vs hs hl
  obtain ⟨u, v, rfl, hu, hv⟩ := hl.two
  cases hv.of_str
  generalize hL : xs.map AV.str = L at hu
  generalize hn : xs.length = n at hu hN
  cases hu with
  | sliceNil _ ht =>
    have : xs = [] := List.eq_nil_of_length_eq_zero hn
    subst this
    refine (Tryz.strings_Join_none none 0 sep w).mono ?_
    rintro e w' ⟨rfl, rfl⟩
    exact ⟨_, rfl, Post.same hs (.str _)⟩
  | slice _ _ _ b off cap us hc hk hr he ht =>
    subst hL
    by_cases h0 : xs = []
    · subst h0
      cases hn
      refine (Tryz.strings_Join_none _ _ sep w).mono ?_
      rintro e w' ⟨rfl, rfl⟩
      exact ⟨_, rfl, Post.same hs (.str _)⟩
    have hcells : ∀ (j : Nat) x, xs[j]? = some x → w.cell? ⟨b, off + j, none⟩ = some (.string x) := by
      intro j x hx
      have hj : j < xs.length := by
        rcases Nat.lt_or_ge j xs.length with h' | h'
        · exact h'
        · rw [List.getElem?_eq_none h'] at hx; cases hx
      have h1 := hr j (.str x) (by rw [List.getElem?_map, hx]; rfl)
      have h2 := h1.of_str
      have h3 := hs.K _ _ _ (hk j (by simpa using hj))
      rw [h2] at h3; exact h3
    have hpos : 0 < xs.length := List.length_pos_iff.2 h0
    have hb : b < w.heap.size := cell?_isSome_lt (hcells 0 xs[0] (List.getElem?_eq_getElem hpos))
    subst hn
    refine (Tryz.strings_Join b off cap xs sep w hcells hb hN hc hlen).mono ?_
    rintro e w' ⟨rfl, hw⟩
    exact ⟨_, rfl, c, Cx.le.refl c, rfl, rfl, hs.below hw, .str _⟩
def splitL (s : ByteArray) (c : UInt8) : List ByteArray := Lib.splitB ⟨#[c]⟩ 0 (Lib.countB s ⟨#[c]⟩) s
theorem genSplit_pc (s : ByteArray) (b : UInt8) (hs : s.size < 4294967281) : PC Tryz.prog 159 [.str s, .str ⟨#[b]⟩, .int .i64 0, .int .i64 (-1)] (.pure (.slice ((splitL s b).map AV.str) (splitL s b).length .exact)) := by
  intro c S w vs hst hl
  obtain ⟨v1, v2, v3, v4, rfl, h1, h2, h3, h4⟩ := hl.four
  cases h1.of_str; cases h2.of_str; cases h3.of_int; cases h4.of_int
  have hle := Lib.countB_le ⟨#[b]⟩ (Nat.le_refl 1) s.size s (Nat.le_refl _)
  have hlen := Lib.splitB_all ⟨#[b]⟩ (Nat.le_refl 1) 0 _ s rfl
  have c1 := Any.strings_genSplit_core Tryz.lays221 (by kernel_rfl) s ⟨#[b]⟩ 0 (-1) (Lib.countB s ⟨#[b]⟩ + 1) w hs (Nat.le_refl 1) (Nat.zero_le _)
    (fun x cc hx => by
      have h := Tryz.strings_Index_one x b (w.alloc (.cells cc 9))
      rw [← Lib.index_one] at h
      exact h)
    (by have h := Tryz.strings_Count_one s b w
        unfold Lib.countByte at h
        rw [← Lib.count_one] at h
        exact h) (by decide) (by decide) (by rw [if_pos (by decide)]; omega)
  rw [Nat.add_sub_cancel, hlen] at c1
  refine Calls.mono c1 ?_
  rintro e w' ⟨rfl, rfl⟩
  refine ⟨_, rfl, ?_⟩
  have e2 : Lib.cellsOf (Lib.splitB ⟨#[b]⟩ 0 (Lib.countB s ⟨#[b]⟩) s) (Lib.countB s ⟨#[b]⟩ + 1) = ((splitL s b).map Value.string).toArray := by rw [← hlen]; exact Lib.cellsOf_full _
  rw [e2]
  have hln : Lib.countB s ⟨#[b]⟩ + 1 = (splitL s b).length := hlen.symm
  rw [hln]
  exact Post.newImm hst (l := (splitL s b).map AV.str) (arr := ((splitL s b).map Value.string).toArray) 9 ⟨by simp, fun j x v e1 e2 => by
    simp only [List.getElem?_map] at e1 e2
    cases hj : (splitL s b)[j]? with
    | none => rw [hj] at e1; cases e1
    | some y => rw [hj] at e1 e2; cases e1; cases e2; exact .str _⟩ _
end Go.Av
end
