/- Part 26 of the proof. -/
import Derived.Test.YtlagjjpbknpdkaaGreatDoorVi25
import Derived.Test.YtlagjjpbknpdkaaGreatDoorVi14
import Derived.Test.YtlagjjpbknpdkaaGreatDoorRows
import Derived.ProofKit
import Derived.LaidMore
import Derived.OpenShut
import Derived.Deep.Slices
import Derived.Stop.Joined
import Derived.ChangeOld
import Derived.SizedLaws
import Derived.Test.YtlagjjpbknpdkaaGreatDoorTie
import Derived.Test.YtlagjjpbknpdkaaGreatDoorCards
import Derived.Lib.LaidTab
import Derived.Lib.ItoaNum
import Derived.Lay
import Derived.LaidOnce
import Derived.MakeChecks
import Derived.SevenTiedAt
import Derived.Test.YtlagjjpbknpdkaaGreatDoorVi20
set_option linter.all false
set_option linter.unusedVariables false
set_option linter.unusedSimpArgs false
set_option linter.unusedSectionVars false
open Nat (reduceEqDiff reduceAdd reduceLeDiff)
section
namespace Go.Av.Fx
open Go Go.Av Go.Av.Tb Go.Proofs
theorem poss_line {l : LLine} (h : Ln l) : PC Tryz.prog 41 [lineA l] (.pure (.tuple [.bool (possB l), .int .i64 0])) := by
  have hp := h.pts
  have hc := h.cts
  have := Possible_pc l ⟨by show _ < _; omega, by show _ < _; omega⟩
  rw [isLine_iff.2 h, Bool.true_and, if_pos rfl] at this
  exact this
theorem ne4b (a b : Bool) : binA T .neq 4 (.bool a) (.bool b) = some (.bool (a ^^ b)) := by
  cases a <;> cases b <;> rfl
theorem kept2_pc {l : LLine} (h : Ln l) {i k : Nat} (hi : i < l.counts.length) (hk : k < l.counts.length) : PC Tryz.prog 59 [lineA l, sl [(i : Int), (k : Int)]] (.pure (lineA (twoL l i k))) :=
  Kept_pc l (by have := h.cts; omega) [i, k] (by simp) (fun n hn => by simp at hn; omega)
set_option maxHeartbeats 8000000 in
theorem clear_end (l : LLine) (h : Ln l) (one two : Int) (f a b : Int) (hf : (f = 5 ∧ clashL l = none) ∨ ∃ i k : Nat, f = 0 ∧ a = i ∧ b = k ∧ clashL l = some (i, k)) (v : AV) :
    ∀ ts : TS, (ts = [(2, .int .i64 one), (3, .int .i64 two), (4, .ref 0 0), (9, v), (11, .int .i64 a), (12, .int .i64 b), (13, .int .i64 f), (14, .bool (possB l)), (120, .bool false)] ∨ ts = [(2, .int .i64 one), (3, .int .i64 two), (4, .ref 0 0), (11, .int .i64 a), (12, .int .i64 b), (13, .int .i64 f), (163, .bool false)]) →
    WC (E 210) (.seq (.seq (.region [2, 3, 4, 191] r11_18) (.cond (.tmp 191) (.seq (.region [8] r11_19) .ret) .skip)) (.seq (.region [22, 23] r11_20) (.seq (.region [8] r11_21) .ret))) (bodyQ (E 210) Tryz.f11.results.toList (fun e x => e = AEnd.ret (AV.bool true))) ts ⟨[some (.cells (lineC l))], 0, []⟩ := by
  have hc := h.cts
  have done : ∀ (i k : Nat), i < k → k < l.counts.length → possB (twoL l i k) = true → PC Tryz.prog 41 [lineA (twoL l i k)] (.pure (.tuple [.bool true, .int .i64 0])) := fun i k h1 h2 h3 => by
    have := poss_line (two_ln h (by omega : i < _) h2); rw [h3] at this; exact this
  have z00 : decide ((0 : Int) = 0) = true := rfl
  have z50 : ¬ ((5 : Int) = 0) := by decide
  intro ts hts
  rcases hts with rfl | rfl
  all_goals
    by_cases h1 : one < 0
    · simp only [go_sem, h1, decide_true, reduceEqDiff, Nat.reduceBEq, reduceAdd, reduceIte, reduceCtorEq, reduceLeDiff]
      refine cp n20 known_pc (SubL.refl _) ?_
      simp only [go_sem, Tryz.f11, reduceEqDiff, Nat.reduceBEq, reduceAdd, reduceIte, reduceCtorEq, reduceLeDiff]
    by_cases h2 : one ≥ two
    · simp only [go_sem, h1, h2, decide_true, decide_false, reduceEqDiff, Nat.reduceBEq, reduceAdd, reduceIte, reduceCtorEq, reduceLeDiff]
      refine cp n20 known_pc (SubL.refl _) ?_
      simp only [go_sem, Tryz.f11, reduceEqDiff, Nat.reduceBEq, reduceAdd, reduceIte, reduceCtorEq, reduceLeDiff]
    by_cases h3 : two ≥ (l.counts.length : Int)
    · simp only [go_sem, h1, h2, h3, decide_true, decide_false, builtinA, reduceEqDiff, Nat.reduceBEq, reduceAdd, reduceIte, reduceCtorEq, reduceLeDiff]
      refine cp n20 known_pc (SubL.refl _) ?_
      simp only [go_sem, Tryz.f11, reduceEqDiff, Nat.reduceBEq, reduceAdd, reduceIte, reduceCtorEq, reduceLeDiff]
    obtain ⟨x, rfl⟩ : ∃ x : Nat, one = x := ⟨one.toNat, by omega⟩
    obtain ⟨y, rfl⟩ : ∃ y : Nat, two = y := ⟨two.toNat, by omega⟩
    have hK := kept2_pc h (by omega : x < l.counts.length) (by omega : y < l.counts.length)
    rcases hf with ⟨rfl, hcl⟩ | ⟨i, k, rfl, rfl, rfl, hcl⟩
    · simp only [go_sem, h1, h2, h3, decide_true, decide_false, builtinA, z50, reduceEqDiff, Nat.reduceBEq, reduceAdd, reduceIte, reduceCtorEq, reduceLeDiff]
      refine cp n59 hK (SubL.cons (Sub.refl _) (SubL.cons (Sub.unk _ _ _) (SubL.refl []))) ?_
      simp only [go_sem, reduceEqDiff, Nat.reduceBEq, reduceAdd, reduceIte, reduceCtorEq, reduceLeDiff]
      refine cp n41 (done x y (by omega) (by omega) (clash_none hcl (by omega) (by omega))) (SubL.refl _) ?_
      simp only [go_sem, extractA, z00, decide_true, reduceEqDiff, Nat.reduceBEq, reduceAdd, reduceIte, reduceCtorEq, reduceLeDiff]
      refine cp n20 known_pc (SubL.refl _) ?_
      simp only [go_sem, Tryz.f11, reduceEqDiff, Nat.reduceBEq, reduceAdd, reduceIte, reduceCtorEq, reduceLeDiff]
    · have hB := before_pc [(x : Int), (y : Int)] [(i : Int), (k : Int)] (by show 2 < _; omega) (by show 2 < _; omega)
      simp only [go_sem, h1, h2, h3, decide_true, decide_false, builtinA, z00, reduceEqDiff, Nat.reduceBEq, reduceAdd, reduceIte, reduceCtorEq, reduceLeDiff]
      refine cp n32 hB (SubL.cons (Sub.unk _ _ _) (SubL.cons (Sub.unk _ _ _) (SubL.refl []))) ?_
      cases hb : beforeB [(x : Int), (y : Int)] [(i : Int), (k : Int)]
      · simp only [go_sem, un_not, Bool.not_false, reduceEqDiff, Nat.reduceBEq, reduceAdd, reduceIte, reduceCtorEq, reduceLeDiff]
        refine cp n20 known_pc (SubL.refl _) ?_
        simp only [go_sem, Tryz.f11, reduceEqDiff, Nat.reduceBEq, reduceAdd, reduceIte, reduceCtorEq, reduceLeDiff]
      · simp only [go_sem, un_not, Bool.not_true, reduceEqDiff, Nat.reduceBEq, reduceAdd, reduceIte, reduceCtorEq, reduceLeDiff]
        refine cp n59 hK (SubL.cons (Sub.refl _) (SubL.cons (Sub.unk _ _ _) (SubL.refl []))) ?_
        simp only [go_sem, reduceEqDiff, Nat.reduceBEq, reduceAdd, reduceIte, reduceCtorEq, reduceLeDiff]
        refine cp n41 (done x y (by omega) (by omega) ((clash_some hcl).2.2.2 x y (by omega) (by omega) hb)) (SubL.refl _) ?_
        simp only [go_sem, extractA, z00, decide_true, reduceEqDiff, Nat.reduceBEq, reduceAdd, reduceIte, reduceCtorEq, reduceLeDiff]
        refine cp n20 known_pc (SubL.refl _) ?_
        simp only [go_sem, Tryz.f11, reduceEqDiff, Nat.reduceBEq, reduceAdd, reduceIte, reduceCtorEq, reduceLeDiff]
set_option maxHeartbeats 8000000 in
theorem LeakClear_pc (l : LLine) (ok : okLine l) (other : List Int) (ho : okL other.length) (one two : Int) : PC Tryz.prog 11 [lineA l, sl other, .int .i64 one, .int .i64 two] (.pure (.bool true)) := by
  refine PC.of_empty (AC.run (E_ok _) mix Tryz.func11 m11 rfl rfl rfl (Nat.le_of_ble_eq_true rfl) ?_) (by simp [bndL, AV.bnd]) rfl
  simp only [go_sem, boxA, reduceEqDiff, Nat.reduceBEq, reduceAdd, reduceIte, reduceCtorEq, reduceLeDiff]
  refine cp n19 (short_pc l) (SubL.refl _) ?_
  cases hsh : (decide ((l.gives.length : Int) ≤ 7) && decide ((l.counts.length : Int) ≤ 10))
  · simp only [go_sem, un_not, Bool.not_false, reduceEqDiff, Nat.reduceBEq, reduceAdd, reduceIte, reduceCtorEq, reduceLeDiff]
    refine cp n20 known_pc (SubL.refl _) ?_
    simp only [go_sem, Tryz.f11, reduceEqDiff, Nat.reduceBEq, reduceAdd, reduceIte, reduceCtorEq, reduceLeDiff]
  simp only [go_sem, un_not, Bool.not_true, reduceEqDiff, Nat.reduceBEq, reduceAdd, reduceIte, reduceCtorEq, reduceLeDiff]
  refine cp n28 (rLine_pc l ok) (SubL.refl _) ?_
  cases h : isLineB l
  · simp only [go_sem, un_not, Bool.not_false, reduceEqDiff, Nat.reduceBEq, reduceAdd, reduceIte, reduceCtorEq, reduceLeDiff]
    refine cp n20 known_pc (SubL.refl _) ?_
    simp only [go_sem, Tryz.f11, reduceEqDiff, Nat.reduceBEq, reduceAdd, reduceIte, reduceCtorEq, reduceLeDiff]
  by_cases h10 : (other.length : Int) > 10
  · simp only [go_sem, un_not, Bool.not_true, builtinA, h10, decide_true, reduceEqDiff, Nat.reduceBEq, reduceAdd, reduceIte, reduceCtorEq, reduceLeDiff]
    refine cp n20 known_pc (SubL.refl _) ?_
    simp only [go_sem, Tryz.f11, reduceEqDiff, Nat.reduceBEq, reduceAdd, reduceIte, reduceCtorEq, reduceLeDiff]
  simp only [go_sem, un_not, Bool.not_true, builtinA, h10, decide_false, reduceEqDiff, Nat.reduceBEq, reduceAdd, reduceIte, reduceCtorEq, reduceLeDiff]
  refine cp n57 (rising_pc l other ho) (SubL.refl _) ?_
  cases hr : risingB l other
  · simp only [go_sem, un_not, Bool.not_false, reduceEqDiff, Nat.reduceBEq, reduceAdd, reduceIte, reduceCtorEq, reduceLeDiff]
    refine cp n20 known_pc (SubL.refl _) ?_
    simp only [go_sem, Tryz.f11, reduceEqDiff, Nat.reduceBEq, reduceAdd, reduceIte, reduceCtorEq, reduceLeDiff]
  simp only [go_sem, un_not, Bool.not_true, reduceEqDiff, Nat.reduceBEq, reduceAdd, reduceIte, reduceCtorEq, reduceLeDiff]
  have hln := isLine_iff.1 h
  have hcts := hln.cts
  obtain ⟨w1, w2, w3, w4⟩ := wrong_spec hln
  have hW := Wrong_pc l ok
  unfold wrongA at hW
  rw [if_pos h] at hW
  have hC := Clash_pc l ok
  unfold clashA at hC
  rw [if_pos h] at hC
  have hP := poss_line hln
  have hO := poss_line (without_ln hln other)
  have hOw := poss_line (without_ln hln (wrongL l))
  rw [w1] at hOw
  have hX := Without_pc l (by omega) other (by omega)
  have hwl := wrong_len l
  have hXw := Without_pc l (by omega) (wrongL l) (by omega)
  have hRw := rising_pc l (wrongL l) (by show _ < _; omega)
  rw [w2] at hRw
  have hB := before_pc other (wrongL l) ho (by show _ < _; omega)
  have e4 : (possB l ^^ decide (((wrongL l).length : Int) = 0)) = false := by
    rw [w4]
    by_cases hz : (wrongL l).length = 0
    · rw [decide_eq_true hz, decide_eq_true (p := (((wrongL l).length : Int) = 0)) (by omega)]; rfl
    · rw [decide_eq_false hz, decide_eq_false (p := (((wrongL l).length : Int) = 0)) (by omega)]; rfl
  have hbf : possB (withoutL l other) = true → beforeB other (wrongL l) = false := w3 other hr
  have y0 : ¬ ((0 : Int) ≠ 0) := by decide
  have y5 : ¬ ((5 : Int) ≠ 5) := by decide
  have d50 : decide ((5 : Int) ≠ 0) = true := rfl
  have z00 : decide ((0 : Int) = 0) = true := rfl
  have z50 : ¬ ((5 : Int) = 0) := by decide
  have hcw := fun a b hcl => clash_wrong hln (a := a) (b := b) hcl
  refine cp n54 hW (SubL.refl _) ?_
  simp only [go_sem, extractA, reduceEqDiff, Nat.reduceBEq, reduceAdd, reduceIte, reduceCtorEq, reduceLeDiff]
  cases hcl : clashL l with
  | none =>
    rw [hcl] at hC
    have tl := clear_end l hln one two 5 0 0 (.inl ⟨rfl, hcl⟩) (sl (wrongL l)) _ (.inl rfl)
    refine cp n53 hC (SubL.refl _) ?_
    simp only [go_sem, extractA, reduceEqDiff, Nat.reduceBEq, reduceAdd, reduceIte, reduceCtorEq, reduceLeDiff]
    refine cp n41 hP (SubL.refl _) ?_
    simp only [go_sem, extractA, reduceEqDiff, Nat.reduceBEq, reduceAdd, reduceIte, reduceCtorEq, reduceLeDiff]
    refine cp n58 hX (SubL.refl _) ?_
    simp only [go_sem, reduceEqDiff, Nat.reduceBEq, reduceAdd, reduceIte, reduceCtorEq, reduceLeDiff]
    refine cp n41 hO (SubL.refl _) ?_
    simp only [go_sem, extractA, y0, y5, d50, decide_false, decide_true, reduceEqDiff, Nat.reduceBEq, reduceAdd, reduceIte, reduceCtorEq, reduceLeDiff]
    refine cp n57 hRw (SubL.refl _) ?_
    cases hpo : possB (withoutL l other)
    · simp only [go_sem, un_not, Bool.not_true, builtinA, ne4b, e4, reduceEqDiff, Nat.reduceBEq, reduceAdd, reduceIte, reduceCtorEq, reduceLeDiff]
      refine cp n58 hXw (SubL.refl _) ?_
      simp only [go_sem, reduceEqDiff, Nat.reduceBEq, reduceAdd, reduceIte, reduceCtorEq, reduceLeDiff]
      refine cp n41 hOw (SubL.refl _) ?_
      simp only [go_sem, extractA, y0, decide_false, un_not, Bool.not_true, z50, reduceEqDiff, Nat.reduceBEq, reduceAdd, reduceIte, reduceCtorEq, reduceLeDiff]
      simp only [go_sem, reduceEqDiff, Nat.reduceBEq, reduceAdd, reduceIte, reduceCtorEq, reduceLeDiff] at tl
      exact tl
    · rw [hbf hpo] at hB
      simp only [go_sem, un_not, Bool.not_true, builtinA, ne4b, e4, reduceEqDiff, Nat.reduceBEq, reduceAdd, reduceIte, reduceCtorEq, reduceLeDiff]
      refine cp n32 hB (SubL.refl _) ?_
      simp only [go_sem, reduceEqDiff, Nat.reduceBEq, reduceAdd, reduceIte, reduceCtorEq, reduceLeDiff]
      refine cp n58 hXw (SubL.refl _) ?_
      simp only [go_sem, reduceEqDiff, Nat.reduceBEq, reduceAdd, reduceIte, reduceCtorEq, reduceLeDiff]
      refine cp n41 hOw (SubL.refl _) ?_
      simp only [go_sem, extractA, y0, decide_false, un_not, Bool.not_true, z50, reduceEqDiff, Nat.reduceBEq, reduceAdd, reduceIte, reduceCtorEq, reduceLeDiff]
      simp only [go_sem, reduceEqDiff, Nat.reduceBEq, reduceAdd, reduceIte, reduceCtorEq, reduceLeDiff] at tl
      exact tl
  | some ab =>
    obtain ⟨a, b⟩ := ab
    rw [hcl] at hC
    have tl := clear_end l hln one two 0 a b (.inr ⟨a, b, rfl, rfl, rfl, hcl⟩) (sl (wrongL l)) _ (.inr rfl)
    obtain ⟨c1, c2⟩ := hcw a b hcl
    obtain ⟨c3, c4, c5, _⟩ := clash_some hcl
    have f1 : ¬ ((a : Int) < 0) := by omega
    have f2 : ¬ ((a : Int) ≥ b) := by omega
    have f3 : ¬ ((b : Int) ≥ l.counts.length) := by omega
    have hHa := lhas_pc (wrongL l) (by show _ < _; omega) a
    have hHb := lhas_pc (wrongL l) (by show _ < _; omega) b
    have hK := kept2_pc hln (by omega : a < l.counts.length) c4
    have hK2 := poss_line (two_ln hln (by omega : a < l.counts.length) c4)
    rw [c5] at hK2
    rw [c1] at e4 hP
    have rest : ∀ Z : Prop, True := fun _ => trivial
    refine cp n53 hC (SubL.refl _) ?_
    simp only [go_sem, extractA, reduceEqDiff, Nat.reduceBEq, reduceAdd, reduceIte, reduceCtorEq, reduceLeDiff]
    refine cp n41 hP (SubL.refl _) ?_
    simp only [go_sem, extractA, reduceEqDiff, Nat.reduceBEq, reduceAdd, reduceIte, reduceCtorEq, reduceLeDiff]
    refine cp n58 hX (SubL.refl _) ?_
    simp only [go_sem, reduceEqDiff, Nat.reduceBEq, reduceAdd, reduceIte, reduceCtorEq, reduceLeDiff]
    refine cp n41 hO (SubL.refl _) ?_
    simp only [go_sem, extractA, y0, decide_false, decide_true, reduceEqDiff, Nat.reduceBEq, reduceAdd, reduceIte, reduceCtorEq, reduceLeDiff]
    refine cp n57 hRw (SubL.refl _) ?_
    cases hpo : possB (withoutL l other)
    all_goals
      first
        | rw [hbf hpo] at hB
          simp only [go_sem, un_not, Bool.not_true, builtinA, ne4b, e4, reduceEqDiff, Nat.reduceBEq, reduceAdd, reduceIte, reduceCtorEq, reduceLeDiff]
          refine cp n32 hB (SubL.refl _) ?_
          simp only [go_sem, reduceEqDiff, Nat.reduceBEq, reduceAdd, reduceIte, reduceCtorEq, reduceLeDiff]
        | simp only [go_sem, un_not, Bool.not_true, builtinA, ne4b, e4, reduceEqDiff, Nat.reduceBEq, reduceAdd, reduceIte, reduceCtorEq, reduceLeDiff]
      refine cp n58 hXw (SubL.refl _) ?_
      simp only [go_sem, reduceEqDiff, Nat.reduceBEq, reduceAdd, reduceIte, reduceCtorEq, reduceLeDiff]
      refine cp n41 hOw (SubL.refl _) ?_
      simp only [go_sem, extractA, y0, decide_false, un_not, Bool.not_true, z00, decide_true, f1, f2, f3, builtinA, reduceEqDiff, Nat.reduceBEq, reduceAdd, reduceIte, reduceCtorEq, reduceLeDiff]
      refine cp n33 hHa (SubL.refl _) ?_
      cases hca : (wrongL l).contains (a : Int)
      · rw [hca, Bool.false_or] at c2
        rw [c2] at hHb
        simp only [go_sem, un_not, Bool.not_false, reduceEqDiff, Nat.reduceBEq, reduceAdd, reduceIte, reduceCtorEq, reduceLeDiff]
        refine cp n33 hHb (SubL.refl _) ?_
        simp only [go_sem, un_not, Bool.not_true, reduceEqDiff, Nat.reduceBEq, reduceAdd, reduceIte, reduceCtorEq, reduceLeDiff]
        refine cp n59 hK (SubL.cons (Sub.refl _) (SubL.cons (Sub.unk _ _ _) (SubL.refl []))) ?_
        simp only [go_sem, reduceEqDiff, Nat.reduceBEq, reduceAdd, reduceIte, reduceCtorEq, reduceLeDiff]
        refine cp n41 hK2 (SubL.refl _) ?_
        simp only [go_sem, extractA, y0, decide_false, reduceEqDiff, Nat.reduceBEq, reduceAdd, reduceIte, reduceCtorEq, reduceLeDiff]
        simp only [go_sem, reduceEqDiff, Nat.reduceBEq, reduceAdd, reduceIte, reduceCtorEq, reduceLeDiff] at tl
        exact tl
      · simp only [go_sem, un_not, Bool.not_true, reduceEqDiff, Nat.reduceBEq, reduceAdd, reduceIte, reduceCtorEq, reduceLeDiff]
        refine cp n59 hK (SubL.cons (Sub.refl _) (SubL.cons (Sub.unk _ _ _) (SubL.refl []))) ?_
        simp only [go_sem, reduceEqDiff, Nat.reduceBEq, reduceAdd, reduceIte, reduceCtorEq, reduceLeDiff]
        refine cp n41 hK2 (SubL.refl _) ?_
        simp only [go_sem, extractA, y0, decide_false, reduceEqDiff, Nat.reduceBEq, reduceAdd, reduceIte, reduceCtorEq, reduceLeDiff]
        simp only [go_sem, reduceEqDiff, Nat.reduceBEq, reduceAdd, reduceIte, reduceCtorEq, reduceLeDiff] at tl
        exact tl
end Go.Av.Fx
end
section
set_option maxRecDepth 100000
namespace Go.Av.Fx
open Go Go.Av Go.Av.Tb Go.Proofs Go.ChangeShapes Go.WideShapes Go.RowKit
def cW (W : World) : Cx :=
 {K := fun b o => W.cell? ⟨b, o, none⟩, μ := fun _ => none, τ := fun _ => none, X := fun _ _ => none
  XO := fun b => match W.heap[b]? with
   | some (.cells _ _ _) => none
   | o => o
  sz := W.heap.size, FZ := ⟨fun _ _ => false, W⟩ }
structure TabOk (W : World) : Prop where
 tab : ∀ i, i < 20 → W.cell? ⟨tabB, i, none⟩ = some (tabV i)
 tsh : ∃ t, W.shape? tabB = some (t, 20)
theorem cW_st {W : World} (h : TabOk W) : StRel (cW W) St.empty W where
 sz := Nat.le_refl _
 tab := h.tab
 tsh := h.tsh
 fr := Frm.refl W
 K := fun _ _ _ e => e
 X := fun _ _ _ e => by cases e
 XO := fun b ob e => by
  simp only [cW] at e
  split at e
  ·cases e
  ·rename_i hn
   exact ⟨e, fun cs t f he => hn cs t f (by rw [e, he])⟩
 F := fun _ _ e => by cases e
 dom := fun _ _ e => by cases e
 tdom := fun _ _ e => by cases e
 blk := fun i B e => by simp [St.empty] at e
 inj := fun i j Bi Bj n e => by simp [St.empty] at e
 tok := fun k hk => by cases hk
 tinj := fun k k' b lo hi lo' hi' hk => by cases hk
 tblk := fun k i b lo hi B hk => by cases hk
structure Keep (W W' : World) : Prop where
 os : W'.os = W.os
 out : W'.output = W.output
 block : ∀ k, k < W.heap.size → W'.heap[k]? = W.heap[k]?
theorem keep_of {W W' : World} {c' : Cx} {S' : St} (hle : (cW W).le c') (h : StRel c' S' W') : Keep W W' := by
 have hfr : Frm W W' := by have := h.fr; rw [hle.FZ] at this; exact this
 refine ⟨hfr.os, hfr.out, fun k hk => ?_⟩
 have hob : W.heap[k]? = some W.heap[k] := Array.getElem?_eq_getElem hk
 rw [hob]
 cases ho : W.heap[k] with
 | cells cs t fr =>
  rw [ho] at hob
  obtain ⟨cs', e1, e2⟩ := hfr.blk k cs t fr hob
  rw [e1]
  congr 2
  apply Array.ext
  ·exact e2
  ·intro j h1 h2
   have hc : W.cell? ⟨k, j, none⟩ = some cs[j] := by
    unfold World.cell?
    simp [hob, h2]
   have := h.K k j _ (hle.K k j _ hc)
   unfold World.cell? at this
   simp [e1, h1] at this
   exact this
 | _ =>
  rw [ho] at hob
  exact (h.XO k _ (by rw [hle.XO]; simp only [cW, hob])).1
theorem Keep.keptBut {W W' : World} (h : Keep W W') (may : MemPlace → Prop) : W.keptBut W' may := by
 refine ⟨h.os, h.out, fun i hi => ?_⟩
 rw [h.block i hi, Array.getElem?_eq_getElem hi]
 cases W.heap[i] with
 | cells c t fr => exact ⟨rfl, rfl, rfl, fun _ _ => rfl⟩
 | map es clock => exact .inr ⟨rfl, rfl⟩
 | _ => rfl
theorem Keep.same {W W' : World} (h : Keep W W') {p : MemPlace} (hp : p.block < W.heap.size) : W.sameAt W' p := by
 cases p with
 | cell b o => exact World.cell?_of_block (w := W) (h.block b hp)
 | map b => exact h.block b hp
theorem Keep.trod {H : Type} {enc : TypeId × Value → H} {P : Program} {t : TypeId} (hl : laidOutB P = true) (hr : P.readableRec t = true) (hrow : t < P.types.size) {W W' : World} {v : Value} {d : DataW H} {ps : List MemPlace}
  (h : DataW.Trod enc P W 0 (fun _ => true) true t v d ps) (hb : Keep W W') (hlt : ∀ x ∈ ps, x.block < W.heap.size) :
  DataW.Trod enc P W' 0 (fun b => decide (b < W.heap.size)) true t v d ps :=
 WideElems.Trod_stays hl hr hrow h (fun x hx => hb.same (hlt x hx)) (fun x hx => by simpa using hlt x hx)
theorem law_calls {f : FuncId} {args : List AV} {W : World} {vs : List Value} (h : PC Tryz.prog f args (.pure (.bool true))) (ht : TabOk W) (hl : LRel (cW W) args vs) :
  Calls Tryz.prog f vs.toArray W fun e W' => e = .returned (.bool true) ∧ Keep W W' := by
 refine (h (cW W) St.empty W vs (cW_st ht) hl).mono ?_
 rintro e W' ⟨x, rfl, c', hle, _, _, hst, hv⟩
 refine ⟨?_, keep_of hle hst⟩
 cases hv; rfl
theorem cells_of {W : World} {b off : Nat} {l : List AV} {n cap : Nat} (hc : n ≤ cap) (h : ∀ j x, l[j]? = some x → ∃ v, W.cell? ⟨b, off + j, none⟩ = some v ∧ VRel (cW W) x v) : VRel (cW W) (.slice l n .unk) (.slice (some ⟨b, off, none⟩) n cap) := by
 have get : ∀ j (hj : j < l.length), ∃ v, W.cell? ⟨b, off + j, none⟩ = some v ∧ VRel (cW W) l[j] v := fun j hj => h j _ (List.getElem?_eq_getElem hj)
 refine .slice l n .unk b off cap (fun j => (W.cell? ⟨b, off + j, none⟩).getD default) hc (fun j hj => ?_) (fun j x hx => ?_) (fun e => by cases e) (fun k e => by cases e)
 ·obtain ⟨v, h1, h2⟩ := get j hj
  show W.cell? _ = some ((W.cell? _).getD default)
  rw [h1]; rfl
 ·obtain ⟨v, h1, h2⟩ := h j x hx
  rw [h1]; exact h2
theorem add_at (b off i : Nat) : (⟨b, off, none⟩ : Addr).add i = ⟨b, off + i, none⟩ := add_plain b off i
theorem has_spot {W : World} {base : Nat} {t e : TypeId} {a : Addr} {len cap : Nat} (ht : Tryz.prog.underlying t = some (.slice e)) (h : Cell.okWide Tryz.prog W .any base t (.slice (some a) len cap)) : a.spot = none := by
 simp only [Cell.okWide, ht, Cell.ok] at h
 exact h.2.2.2.1
section
variable {H : Type} {enc : TypeId × Value → H} {W : World} {base : Nat} {fuel : Nat} {x : DataW H × List MemPlace}
theorem av_ints {v : Value} (h : DataW.trod enc Tryz.prog W 0 (fun _ => true) true fuel 22 [v] = some x) (hw : ∀ n ∈ x.1.weights Tryz.prog 22, n ≤ reachBytes) (hok : Cell.okWide Tryz.prog W .any base 22 v) : ∃ l : List Int, VRel (cW W) (sl l) v ∧ okL l.length := by
 rcases open_ints Tryz.underlying22 Tryz.underlying3 (by kernel_rfl) h with ⟨hcs, _⟩ | ⟨a, len, cap, zs, hcs, _, hl, hm, hz, hx, hcell, _⟩
 ·cases hcs
  exact ⟨[], .sliceNil .unk (fun k e => by cases e), Nat.zero_lt_succ _⟩
 ·cases hcs
  have hsp := has_spot Tryz.underlying22 hok
  obtain ⟨b, off, spot⟩ := a
  simp only at hsp
  subst hsp
  have hz : zs.length = cap := by simpa using hz
  have hlen : (zs.take len).length = len := by rw [List.length_take]; omega
  have hsize : len < 9223372036854775807 := by
   subst hx
   have h8 : Tryz.prog.bytesOf 3 = 8 := by kernel_rfl
   have := hw (((lits .i64 (zs.take len) : List (DataW H)).length + (lits .i64 (zs.drop len) : List (DataW H)).length) * 8) (by
    simp only [DataW.weights, Tryz.underlying22, h8]
    exact List.mem_cons_self)
   have e1 : (lits .i64 (zs.take len) : List (DataW H)).length = len := by simp [lits]; omega
   rw [e1] at this
   unfold reachBytes at this
   omega
  refine ⟨zs.take len, ?_, by rw [hlen]; exact hsize⟩
  show VRel (cW W) (.slice (ints (zs.take len)) (zs.take len).length .unk) _
  rw [hlen]
  refine cells_of hl fun j y hy => ?_
  rw [ints_get] at hy
  have hj : j < (zs.take len).length := by
   rcases Nat.lt_or_ge j (zs.take len).length with h' | h'
   ·exact h'
   ·rw [List.getElem?_eq_none h'] at hy; cases hy
  rw [List.getElem?_eq_getElem hj] at hy
  cases hy
  have hj2 : j < zs.length := by omega
  have hc := hcell j hj2
  rw [add_at] at hc
  refine ⟨_, hc, ?_⟩
  rw [List.getElem_take, List.getD_eq_getElem?_getD, List.getElem?_eq_getElem hj2]
  exact .int _ _
theorem av_int {v : Value} (h : DataW.trod enc Tryz.prog W 0 (fun _ => true) true fuel 3 [v] = some x) : ∃ n : Int, v = .int .i64 n ∧ (Lit.int .i64 n).wf = true := by
 obtain ⟨n, hcs, _, hw⟩ := DataW.trod_int Tryz.underlying3 h
 cases hcs
 exact ⟨n, rfl, hw⟩
theorem av_cnt {cs : List Value} (h : DataW.trod enc Tryz.prog W 0 (fun _ => true) true fuel 82 cs = some x) : ∃ c : Cnt, cs = [.int .i64 c.point, .int .i64 c.low, .int .i64 c.high] := by
 obtain ⟨xs, n, _, _, hl, hlen, hf⟩ := DataW.trod_struct Tryz.underlying82 h
 have hc : Tryz.prog.cellsOf 82 = 3 := by kernel_rfl
 have hc3 : Tryz.prog.cellsOf 3 = 1 := by kernel_rfl
 rw [hc] at hl
 match cs, hl with
 | [a, b, d], _ =>
  match xs, hlen with
  | [y0, y1, y2], _ =>
   have h0 : DataW.trod enc Tryz.prog W 0 (fun _ => true) true n 3 (([a, b, d].drop 0).take (Tryz.prog.cellsOf 3)) = some y0 := hf 0 _ rfl
   have h1 : DataW.trod enc Tryz.prog W 0 (fun _ => true) true n 3 (([a, b, d].drop 1).take (Tryz.prog.cellsOf 3)) = some y1 := hf 1 _ rfl
   have h2 : DataW.trod enc Tryz.prog W 0 (fun _ => true) true n 3 (([a, b, d].drop 2).take (Tryz.prog.cellsOf 3)) = some y2 := hf 2 _ rfl
   rw [hc3] at h0 h1 h2
   obtain ⟨p, rfl, _⟩ := av_int h0
   obtain ⟨q, rfl, _⟩ := av_int h1
   obtain ⟨r, rfl, _⟩ := av_int h2
   exact ⟨⟨p, q, r⟩, rfl⟩
theorem cnts_get : ∀ (l : List Cnt) (j : Nat) (y : AV), (cnts l)[j]? = some y → ∃ (i q : Nat) (hi : i < l.length), j = i * 3 + q ∧ q < 3 ∧ (cntC l[i])[q]? = some y
 | [], j, y, h => by simp [cnts] at h
 | c :: l, j, y, h => by
  have e : cnts (c :: l) = cntC c ++ cnts l := by simp [cnts]
  rw [e] at h
  by_cases hj : j < 3
  ·rw [List.getElem?_append_left (by simpa using hj)] at h
   exact ⟨0, j, by simp, by omega, hj, h⟩
  ·rw [List.getElem?_append_right (by simp; omega)] at h
   obtain ⟨i, q, hi, e1, e2, e3⟩ := cnts_get l _ y h
   refine ⟨i + 1, q, by simpa using hi, ?_, e2, e3⟩
   simp at e1; omega
theorem av_cnts {v : Value} (h : DataW.trod enc Tryz.prog W 0 (fun _ => true) true fuel 23 [v] = some x) (hw : ∀ n ∈ x.1.weights Tryz.prog 23, n ≤ reachBytes) (hok : Cell.okWide Tryz.prog W .any base 23 v) : ∃ l : List Cnt, VRel (cW W) (.slice (cnts l) l.length .unk) v ∧ okL l.length := by
 rcases Go.Deep.open_slice Tryz.underlying23 h with ⟨hcs, _⟩ | ⟨a, len, cap, m, n, D, Pl, hcs, _, hl, hm, hmm, hxx, hx⟩
 ·cases hcs
  exact ⟨[], .sliceNil .unk (fun k e => by cases e), Nat.zero_lt_succ _⟩
 ·cases hcs
  have hsp := has_spot Tryz.underlying23 hok
  obtain ⟨b, off, spot⟩ := a
  simp only at hsp
  subst hsp
  have hmc : m = cap := by simpa using hmm
  have hc : Tryz.prog.cellsOf 82 = 3 := by kernel_rfl
  rw [hc] at hx
  have each : ∀ i, i < len → ∃ c : Cnt, ∀ (q : Nat) (y : AV), (cntC c)[q]? = some y → ∃ u, W.cell? ⟨b, off + (i * 3 + q), none⟩ = some u ∧ VRel (cW W) y u := by
   intro i hi
   obtain ⟨cs', h1, h2⟩ := hx i (by omega)
   obtain ⟨c, rfl⟩ := av_cnt h2
   obtain ⟨_, _, hcell⟩ := World.cells?_some h1
   refine ⟨c, fun q y hy => ?_⟩
   have hq : q < 3 := by
    rcases Nat.lt_or_ge q 3 with h' | h'
    ·exact h'
    ·rw [List.getElem?_eq_none (by simpa using h')] at hy; cases hy
   have hcq := hcell q (by simpa using hq)
   rw [add_at, add_at, Nat.add_assoc] at hcq
   match q, hq, hy with
   | 0, _, hy => cases hy; exact ⟨_, hcq, .int _ _⟩
   | 1, _, hy => cases hy; exact ⟨_, hcq, .int _ _⟩
   | 2, _, hy => cases hy; exact ⟨_, hcq, .int _ _⟩
  obtain ⟨F, hF⟩ : ∃ F : Nat → Cnt, ∀ i, i < len → ∀ (q : Nat) (y : AV), (cntC (F i))[q]? = some y → ∃ u, W.cell? ⟨b, off + (i * 3 + q), none⟩ = some u ∧ VRel (cW W) y u :=
   ⟨fun i => if hi : i < len then (each i hi).choose else ⟨0, 0, 0⟩, fun i hi => by
    show ∀ (q : Nat) (y : AV), (cntC (if hi : i < len then (each i hi).choose else ⟨0, 0, 0⟩))[q]? = some y → _
    rw [dif_pos hi]; exact (each i hi).choose_spec⟩
  have hlen : ((List.range len).map F).length = len := by simp
  have hsize : len < 9223372036854775807 := by
   subst hxx
   have h8 : Tryz.prog.bytesOf 82 = 24 := by kernel_rfl
   have := hw ((((List.range len).map D).length + ((List.range (m - len)).map fun j => D (len + j)).length) * 24) (by
    simp only [DataW.weights, Tryz.underlying23, h8]
    exact List.mem_cons_self)
   rw [List.length_map, List.length_range] at this
   unfold reachBytes at this
   omega
  refine ⟨(List.range len).map F, ?_, by rw [hlen]; exact hsize⟩
  rw [hlen]
  refine cells_of hl fun j y hy => ?_
  obtain ⟨i, q, hi, rfl, _, e3⟩ := cnts_get _ j y hy
  rw [hlen] at hi
  have e4 : ((List.range len).map F)[i] = F i := by simp
  rw [e4] at e3
  exact hF i hi q y e3
end
theorem av_line {H : Type} {enc : TypeId × Value → H} {W : World} {base : Nat} {v : Value} {d : DataW H} {ps : List MemPlace} (h : DataW.Trod enc Tryz.prog W 0 (fun _ => true) true 25 v d ps) (hw : ∀ n ∈ d.weights Tryz.prog 25, n ≤ reachBytes) (hok : Value.okWide Tryz.prog W .any base 25 v) :
  ∃ l : LLine, VRel (cW W) (lineA l) v ∧ okLine l := by
 obtain ⟨fuel, h⟩ := h
 simp only [Value.okWide, Tryz.underlying25] at hok
 obtain ⟨cs, rfl, hsz, ts, hts, _, hrow⟩ := hok
 have hc : Tryz.prog.cellsOf 25 = 5 := by kernel_rfl
 rw [hc] at hsz
 obtain ⟨c0, c1, c2, c3, c4, rfl⟩ : ∃ c0 c1 c2 c3 c4, cs = #[c0, c1, c2, c3, c4] := by
  obtain ⟨l⟩ := cs
  match l, hsz with
  | [c0, c1, c2, c3, c4], _ => exact ⟨c0, c1, c2, c3, c4, rfl⟩
 have hts' : Go.Program.cellTypes Tryz.prog Tryz.prog.depth 25 = some [22, 3, 3, 3, 23] := by kernel_rfl
 rw [hts'] at hts
 cases hts
 have k0 : Cell.okWide Tryz.prog W .any base 22 c0 := by
  obtain ⟨u, e, hu⟩ := hrow 0 c0 rfl
  cases e; exact hu
 have k4 : Cell.okWide Tryz.prog W .any base 23 c4 := by
  obtain ⟨u, e, hu⟩ := hrow 4 c4 rfl
  cases e; exact hu
 obtain ⟨xs, n, _, hd, hl, hlen, hf⟩ := DataW.trod_struct Tryz.underlying25 h
 have hc3 : Tryz.prog.cellsOf 3 = 1 := by kernel_rfl
 have hc22 : Tryz.prog.cellsOf 22 = 1 := by kernel_rfl
 have hc23 : Tryz.prog.cellsOf 23 = 1 := by kernel_rfl
 match xs, hlen with
 | [y0, y1, y2, y3, y4], _ =>
  have h0 : DataW.trod enc Tryz.prog W 0 (fun _ => true) true n 22 (([c0, c1, c2, c3, c4].drop 0).take (Tryz.prog.cellsOf 22)) = some y0 := hf 0 _ rfl
  have h1 : DataW.trod enc Tryz.prog W 0 (fun _ => true) true n 3 (([c0, c1, c2, c3, c4].drop 1).take (Tryz.prog.cellsOf 3)) = some y1 := hf 1 _ rfl
  have h2 : DataW.trod enc Tryz.prog W 0 (fun _ => true) true n 3 (([c0, c1, c2, c3, c4].drop 2).take (Tryz.prog.cellsOf 3)) = some y2 := hf 2 _ rfl
  have h3 : DataW.trod enc Tryz.prog W 0 (fun _ => true) true n 3 (([c0, c1, c2, c3, c4].drop 3).take (Tryz.prog.cellsOf 3)) = some y3 := hf 3 _ rfl
  have h4 : DataW.trod enc Tryz.prog W 0 (fun _ => true) true n 23 (([c0, c1, c2, c3, c4].drop 4).take (Tryz.prog.cellsOf 23)) = some y4 := hf 4 _ rfl
  rw [hc3] at h1 h2 h3
  rw [hc22] at h0
  rw [hc23] at h4
  cases hd
  have hw' : ∀ (j : Nat) (t : TypeId) (d : DataW H), [22, 3, 3, 3, 23][j]? = some t → [y0.1, y1.1, y2.1, y3.1, y4.1][j]? = some d → ∀ n ∈ d.weights Tryz.prog t, n ≤ reachBytes := fun j t d ht hd n hn => by
   refine hw n ?_
   simp only [DataW.weights, Tryz.underlying25]
   exact DataW.weights_mem_each (ts := [22, 3, 3, 3, 23]) ht hd n hn
  obtain ⟨g, hg, og⟩ := av_ints h0 (hw' 0 _ _ rfl rfl) k0
  obtain ⟨p, rfl, _⟩ := av_int h1
  obtain ⟨q, rfl, _⟩ := av_int h2
  obtain ⟨r, rfl, _⟩ := av_int h3
  obtain ⟨cn, hcn, oc⟩ := av_cnts h4 (hw' 4 _ _ rfl rfl) k4
  refine ⟨⟨g, p, q, r, cn⟩, VRel.mk_agg ?_, og, oc⟩
  exact LRel.cons hg (LRel.cons (.int _ _) (LRel.cons (.int _ _) (LRel.cons (.int _ _) (LRel.cons hcn (LRel.nil _)))))
end Go.Av.Fx
end
section
namespace Go.Proofs.YtlagjjpbknpdkaaGreatDoor
open Go Go.Av Go.ChangeShapes Go.WideShapes Go.ChangeAt Go.RowKit
set_option maxRecDepth 100000
theorem own : ownKnob Tryz.prog.godebug = none := by kernel_rfl
theorem laidOut : laidOutB Tryz.prog = true := by kernel_rfl
def tabs : List (String × DataW Unit) := [("math/bits.deBruijn32tab", Rows.laid_math_bits_deBruijn32tab), ("math/bits.deBruijn64tab", Rows.laid_math_bits_deBruijn64tab), ("internal/strconv.uint64pow10", Rows.laid_internal_strconv_uint64pow10), ("unicode/utf8.acceptRanges", Rows.laid_unicode_utf8_acceptRanges), ("unicode/utf8.first", Rows.laid_unicode_utf8_first)]
theorem pow_data : (Rows.laid_internal_strconv_uint64pow10 : DataW Unit) = Lib.tabData .u64 Lib.pow10Tab := by kernel_rfl
theorem pow_name : Tryz.prog.globalNamed "internal/strconv.uint64pow10" = some 0 := by kernel_rfl
theorem pow_type : (Tryz.prog.globals[0]?).map (·.type) = some 232 := by kernel_rfl
theorem tab_ok {W : World} (h : laidMetH Tryz.prog tabs W) : Go.Av.Fx.TabOk W := by
 rw [MakeChecks.laidMetH_plain _ _ _ (by kernel_rfl)] at h
 obtain ⟨ps, ⟨_, _, _, _, _, _, _, _, _, _, ⟨_, _, _, _, _, _, _, _, _, _, ⟨g, t, cs, fuel, p, q, hg, ht, hv, hd, _, _⟩, _⟩, _⟩, _, _⟩ := h
 obtain rfl := Option.some.inj (pow_name.symm.trans hg)
 obtain rfl := Option.some.inj (pow_type.symm.trans ht)
 rw [pow_data] at hd
 have hcs := Lib.cells_of_tab (P := Tryz.prog) (t := 232) (e := 215) (n := 20) (k := .u64) (by kernel_rfl) (by kernel_rfl) (by kernel_rfl) (by kernel_rfl) hd
 have hlen : Lib.pow10Tab.length = 20 := by simp [Lib.pow10Tab]
 have hTab : Lib.TabIs Tryz.prog W "internal/strconv.uint64pow10" .u64 Lib.pow10Tab := by
  unfold Lib.TabIs
  rw [hv, ← hcs]
 refine ⟨fun i hi => ?_, ?_⟩
 ·have := hTab.cell pow_name i (by rw [hlen]; exact hi)
  rw [show (Lib.pow10Tab.getD i 0 : Int) = ((10 ^ i : Nat) : Int) by
   unfold Lib.pow10Tab
   rw [List.getD_eq_getElem?_getD, List.getElem?_map, List.getElem?_range hi]; rfl] at this
  exact this
 ·unfold World.var? at hv
  rw [pow_name, Option.bind_some] at hv
  split at hv
  ·rename_i cs' t' fr e
   cases hv
   refine ⟨t', ?_⟩
   unfold World.shape?
   show (match W.heap[0]? with
    | some (.cells c elem _) => some (elem, c.size)
    | _ => none) = _
   rw [e]
   have : cs.size = 20 := by
    have := congrArg List.length hcs
    simpa [hlen] using this
   simp [this]
  ·cases hv
end Go.Proofs.YtlagjjpbknpdkaaGreatDoor
end
section
set_option maxRecDepth 100000
namespace Go.Av.Fx
open Go Go.Av Go.Av.Tb Go.Proofs Go.ChangeShapes Go.WideShapes Go.RowKit
theorem cells_lone {v : Value} (h : ∀ cs, v ≠ .agg cs) : v.cells.toList = [v] := by
 cases v <;> first | rfl | exact absurd rfl (h _)
theorem av_intsA {H : Type} {enc : TypeId × Value → H} {W : World} {base : Nat} {v : Value} {d : DataW H} {ps : List MemPlace} (h : DataW.Trod enc Tryz.prog W 0 (fun _ => true) true 22 v d ps) (hw : ∀ n ∈ d.weights Tryz.prog 22, n ≤ reachBytes) (hok : Value.okWide Tryz.prog W .any base 22 v) :
  ∃ l : List Int, VRel (cW W) (sl l) v ∧ okL l.length := by
 obtain ⟨fuel, h⟩ := h
 simp only [Value.okWide, Tryz.underlying22] at hok
 rw [cells_lone (fun cs e => by subst e; simp [Tryz.underlying22, Cell.okWide, Cell.ok] at hok)] at h
 exact av_ints h hw hok
end Go.Av.Fx
end
