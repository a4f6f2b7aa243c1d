/- Part 28 of the proof. -/
import Derived.Test.YtlagjjpbknpdkaaGreatDoorP27
import Derived.Test.YtlagjjpbknpdkaaGreatDoorP14
import Derived.Test.YtlagjjpbknpdkaaGreatDoorRows
import Derived.ProofKit
import Derived.LaidMore
import Derived.OpenShut
import Derived.Deep.Slices
import Derived.Stop.Joined
import Derived.ChangeOld
import Derived.SizedLaws
import Derived.Test.YtlagjjpbknpdkaaGreatDoorTie
import Derived.Test.YtlagjjpbknpdkaaGreatDoorCards
import Derived.Lib.LaidTab
import Derived.Lib.ItoaNum
import Derived.Lay
import Derived.LaidOnce
import Derived.MakeChecks
import Derived.SevenTiedAt
import Derived.Test.YtlagjjpbknpdkaaGreatDoorP20
set_option linter.all false
set_option linter.unusedVariables false
set_option linter.unusedSimpArgs false
set_option linter.unusedSectionVars false
open Nat (reduceEqDiff reduceAdd reduceLeDiff)
section
namespace Go.Av.Fx
open Go Go.Av Go.Av.Tb Go.Proofs
theorem ne42 (a b c d : Int) : binA T .neq 42 (.agg [.int .i64 a, .int .i64 b]) (.agg [.int .i64 c, .int .i64 d]) = some (.bool (!(decide (a = c) && decide (b = d)))) := by
 have : binA T .neq 42 (.agg [.int .i64 a, .int .i64 b]) (.agg [.int .i64 c, .int .i64 d]) = (if (a == c) = true then (if (b == d) = true then some true else some false) else some false).map (AV.bool !·) := rfl
 rw [this]
 by_cases h1 : a = c <;> by_cases h2 : b = d <;> simp [h1, h2]
theorem ne42s (a : Span) : binA T .neq 42 (spA a) (spA a) = some (.bool false) := by
 rw [ne42]; simp
theorem eq42s (a : Span) : binA T .eql 42 (spA a) (spA a) = some (.bool true) := by
 rw [eq42]; simp
def flowsP (l : LLine) (p : Int) : Span := if askE l (inB p 0 l.gives.length) = 0 then flowsS l p.toNat else ⟨0, 0⟩
theorem flowsA_eq (l : LLine) (p : Int) : flowsA l p = .tuple [spA (flowsP l p), .int .i64 (askE l (inB p 0 l.gives.length))] := by
 unfold flowsA flowsP
 split
 ·rename_i h; rw [h]
 ·rfl
def lostP (l : LLine) (a b : Int) : Span := if askE l (fineLost l a b) = 0 then lostAll l a.toNat b.toNat else ⟨0, 0⟩
theorem lostA_eq (l : LLine) (a b : Int) : lostA l a b = .tuple [spA (lostP l a b), .int .i64 (askE l (fineLost l a b))] := by
 unfold lostA lostP
 split
 ·rename_i h; rw [h]
 ·rfl
set_option maxHeartbeats 4000000 in
theorem flows_tail2_106 (l : LLine) (ok : okLine l) (a b : Int) (B : Option Blk) (H : List (Option Blk)) :
  WC (E 157) (.seq (.seq (.draw [1, 2, 4, 11, 12, 18] 14 [] r5_18) (.seq (.region [1, 2, 4, 11, 12, 18, 132] r5_19) (.cond (.tmp 132) (.seq (.region [8] r5_20) .ret) .skip))) (.seq (.draw [8] 8 [] r5_21) .ret)) (bodyQ (E 157) Tryz.f5.results.toList (fun e x => e = AEnd.ret (AV.bool true)))
   [(1, .int .i64 a), (2, .int .i64 b), (4, .ref 0 0), (11, .ref 2 0), (12, .int .i64 (askE l (fineLost l a b))), (106, .bool false)] ⟨some (.cells (lineC l)) :: B :: some (.cells [.int .i64 (lostP l a b).low, .int .i64 (lostP l a b).high]) :: H, 0, []⟩ := by
 have fin : ∀ fine, fine = fineLost l a b → PC Tryz.prog 23 [lineA l, .bool fine] (.pure (.int .i64 (askE l (fineLost l a b)))) := fun fine e => by rw [e]; exact rasked_pc l ok _
 simp only [go_sem, reduceEqDiff, Nat.reduceBEq, reduceAdd, reduceIte, reduceCtorEq, reduceLeDiff]
 first
  | refine cp n37 (rPoint_pc l a) (SubL.refl _) ?_
  | refine qp n37 (rPoint_pc l a) (SubL.refl _) ?_
 cases ha : inB a 0 l.gives.length
 ·have hf : false = fineLost l a b := by unfold fineLost; rw [ha]; rfl
  simp only [go_sem, reduceEqDiff, Nat.reduceBEq, reduceAdd, reduceIte, reduceCtorEq, reduceLeDiff]
  first
   | refine cp n23 (fin _ hf) (SubL.refl _) ?_
   | refine qp n23 (fin _ hf) (SubL.refl _) ?_
  by_cases hq : askE l (fineLost l a b) = 0
  ·have he : lostP l a b = lostAll l a.toNat b.toNat := by unfold lostP; rw [if_pos hq]
   rw [hq, he]
   obtain ⟨h, hfi, hp⟩ : isLineB l = true ∧ fineLost l a b = true ∧ possB l = true := by
    rcases askE_cases l (fineLost l a b) with ⟨e, _⟩ | ⟨e, _⟩ | ⟨_, h1, h2, h3⟩
    ·rw [e] at hq; cases hq
    ·rw [e] at hq; cases hq
    ·exact ⟨h1, h2, h3⟩
   have hw := (isLine_iff.1 h).lw
   unfold fineLost at hfi
   rw [Bool.and_eq_true, Bool.and_eq_true, inB_iff, inB_iff, decide_eq_true_iff] at hfi
   obtain ⟨x, rfl⟩ : ∃ x : Nat, a = x := ⟨a.toNat, by omega⟩
   obtain ⟨y, rfl⟩ : ∃ y : Nat, b = y := ⟨b.toNat, by omega⟩
   have hR := rLost_pc l hw (rSets_pos hw hp) x y (by omega) (by omega)
   rw [rLost_eq hw hp (by omega) (by omega)] at hR
   rw [Int.toNat_natCast, Int.toNat_natCast]
   have e2 := eq42s (lostAll l x y)
   generalize lostAll l x y = s at hR e2 ⊢
   obtain ⟨u, v⟩ := s
   have y0 : ¬ ((0 : Int) ≠ 0) := by decide
   have z0 : decide ((0 : Int) = 0) = true := rfl
   simp only [go_sem, y0, z0, decide_false, decide_true, reduceEqDiff, Nat.reduceBEq, reduceAdd, reduceIte, reduceCtorEq, reduceLeDiff]
   first
    | refine cp n39 hR (SubL.refl _) ?_
    | refine qp n39 hR (SubL.refl _) ?_
   simp only [go_sem, e2, reduceEqDiff, Nat.reduceBEq, reduceAdd, reduceIte, reduceCtorEq, reduceLeDiff]
   refine cp n20 known_pc (SubL.refl _) ?_
   simp only [go_sem, Tryz.f5, reduceEqDiff, Nat.reduceBEq, reduceAdd, reduceIte, reduceCtorEq, reduceLeDiff]
  ·have he : lostP l a b = ⟨0, 0⟩ := by unfold lostP; rw [if_neg hq]
   rw [he]
   have e2 := eq42s ⟨0, 0⟩
   have z1 : decide (askE l (fineLost l a b) ≠ 0) = true := decide_eq_true hq
   simp only [go_sem, z1, e2, decide_true, reduceEqDiff, Nat.reduceBEq, reduceAdd, reduceIte, reduceCtorEq, reduceLeDiff]
   refine cp n20 known_pc (SubL.refl _) ?_
   simp only [go_sem, Tryz.f5, reduceEqDiff, Nat.reduceBEq, reduceAdd, reduceIte, reduceCtorEq, reduceLeDiff]
 simp only [go_sem, reduceEqDiff, Nat.reduceBEq, reduceAdd, reduceIte, reduceCtorEq, reduceLeDiff]
 first
  | refine cp n37 (rPoint_pc l b) (SubL.refl _) ?_
  | refine qp n37 (rPoint_pc l b) (SubL.refl _) ?_
 cases hb : inB b 0 l.gives.length
 ·have hf : false = fineLost l a b := by unfold fineLost; rw [ha, hb]; rfl
  simp only [go_sem, reduceEqDiff, Nat.reduceBEq, reduceAdd, reduceIte, reduceCtorEq, reduceLeDiff]
  first
   | refine cp n23 (fin _ hf) (SubL.refl _) ?_
   | refine qp n23 (fin _ hf) (SubL.refl _) ?_
  by_cases hq : askE l (fineLost l a b) = 0
  ·have he : lostP l a b = lostAll l a.toNat b.toNat := by unfold lostP; rw [if_pos hq]
   rw [hq, he]
   obtain ⟨h, hfi, hp⟩ : isLineB l = true ∧ fineLost l a b = true ∧ possB l = true := by
    rcases askE_cases l (fineLost l a b) with ⟨e, _⟩ | ⟨e, _⟩ | ⟨_, h1, h2, h3⟩
    ·rw [e] at hq; cases hq
    ·rw [e] at hq; cases hq
    ·exact ⟨h1, h2, h3⟩
   have hw := (isLine_iff.1 h).lw
   unfold fineLost at hfi
   rw [Bool.and_eq_true, Bool.and_eq_true, inB_iff, inB_iff, decide_eq_true_iff] at hfi
   obtain ⟨x, rfl⟩ : ∃ x : Nat, a = x := ⟨a.toNat, by omega⟩
   obtain ⟨y, rfl⟩ : ∃ y : Nat, b = y := ⟨b.toNat, by omega⟩
   have hR := rLost_pc l hw (rSets_pos hw hp) x y (by omega) (by omega)
   rw [rLost_eq hw hp (by omega) (by omega)] at hR
   rw [Int.toNat_natCast, Int.toNat_natCast]
   have e2 := eq42s (lostAll l x y)
   generalize lostAll l x y = s at hR e2 ⊢
   obtain ⟨u, v⟩ := s
   have y0 : ¬ ((0 : Int) ≠ 0) := by decide
   have z0 : decide ((0 : Int) = 0) = true := rfl
   simp only [go_sem, y0, z0, decide_false, decide_true, reduceEqDiff, Nat.reduceBEq, reduceAdd, reduceIte, reduceCtorEq, reduceLeDiff]
   first
    | refine cp n39 hR (SubL.refl _) ?_
    | refine qp n39 hR (SubL.refl _) ?_
   simp only [go_sem, e2, reduceEqDiff, Nat.reduceBEq, reduceAdd, reduceIte, reduceCtorEq, reduceLeDiff]
   refine cp n20 known_pc (SubL.refl _) ?_
   simp only [go_sem, Tryz.f5, reduceEqDiff, Nat.reduceBEq, reduceAdd, reduceIte, reduceCtorEq, reduceLeDiff]
  ·have he : lostP l a b = ⟨0, 0⟩ := by unfold lostP; rw [if_neg hq]
   rw [he]
   have e2 := eq42s ⟨0, 0⟩
   have z1 : decide (askE l (fineLost l a b) ≠ 0) = true := decide_eq_true hq
   simp only [go_sem, z1, e2, decide_true, reduceEqDiff, Nat.reduceBEq, reduceAdd, reduceIte, reduceCtorEq, reduceLeDiff]
   refine cp n20 known_pc (SubL.refl _) ?_
   simp only [go_sem, Tryz.f5, reduceEqDiff, Nat.reduceBEq, reduceAdd, reduceIte, reduceCtorEq, reduceLeDiff]
 by_cases hab : a ≤ b
 ·have hf : true = fineLost l a b := by unfold fineLost; rw [ha, hb, decide_eq_true hab]; rfl
  simp only [go_sem, hab, decide_true, reduceEqDiff, Nat.reduceBEq, reduceAdd, reduceIte, reduceCtorEq, reduceLeDiff]
  first
   | refine cp n23 (fin _ hf) (SubL.refl _) ?_
   | refine qp n23 (fin _ hf) (SubL.refl _) ?_
  by_cases hq : askE l (fineLost l a b) = 0
  ·have he : lostP l a b = lostAll l a.toNat b.toNat := by unfold lostP; rw [if_pos hq]
   rw [hq, he]
   obtain ⟨h, hfi, hp⟩ : isLineB l = true ∧ fineLost l a b = true ∧ possB l = true := by
    rcases askE_cases l (fineLost l a b) with ⟨e, _⟩ | ⟨e, _⟩ | ⟨_, h1, h2, h3⟩
    ·rw [e] at hq; cases hq
    ·rw [e] at hq; cases hq
    ·exact ⟨h1, h2, h3⟩
   have hw := (isLine_iff.1 h).lw
   unfold fineLost at hfi
   rw [Bool.and_eq_true, Bool.and_eq_true, inB_iff, inB_iff, decide_eq_true_iff] at hfi
   obtain ⟨x, rfl⟩ : ∃ x : Nat, a = x := ⟨a.toNat, by omega⟩
   obtain ⟨y, rfl⟩ : ∃ y : Nat, b = y := ⟨b.toNat, by omega⟩
   have hR := rLost_pc l hw (rSets_pos hw hp) x y (by omega) (by omega)
   rw [rLost_eq hw hp (by omega) (by omega)] at hR
   rw [Int.toNat_natCast, Int.toNat_natCast]
   have e2 := eq42s (lostAll l x y)
   generalize lostAll l x y = s at hR e2 ⊢
   obtain ⟨u, v⟩ := s
   have y0 : ¬ ((0 : Int) ≠ 0) := by decide
   have z0 : decide ((0 : Int) = 0) = true := rfl
   simp only [go_sem, y0, z0, decide_false, decide_true, reduceEqDiff, Nat.reduceBEq, reduceAdd, reduceIte, reduceCtorEq, reduceLeDiff]
   first
    | refine cp n39 hR (SubL.refl _) ?_
    | refine qp n39 hR (SubL.refl _) ?_
   simp only [go_sem, e2, reduceEqDiff, Nat.reduceBEq, reduceAdd, reduceIte, reduceCtorEq, reduceLeDiff]
   refine cp n20 known_pc (SubL.refl _) ?_
   simp only [go_sem, Tryz.f5, reduceEqDiff, Nat.reduceBEq, reduceAdd, reduceIte, reduceCtorEq, reduceLeDiff]
  ·have he : lostP l a b = ⟨0, 0⟩ := by unfold lostP; rw [if_neg hq]
   rw [he]
   have e2 := eq42s ⟨0, 0⟩
   have z1 : decide (askE l (fineLost l a b) ≠ 0) = true := decide_eq_true hq
   simp only [go_sem, z1, e2, decide_true, reduceEqDiff, Nat.reduceBEq, reduceAdd, reduceIte, reduceCtorEq, reduceLeDiff]
   refine cp n20 known_pc (SubL.refl _) ?_
   simp only [go_sem, Tryz.f5, reduceEqDiff, Nat.reduceBEq, reduceAdd, reduceIte, reduceCtorEq, reduceLeDiff]
 ·have hf : false = fineLost l a b := by unfold fineLost; rw [ha, hb, decide_eq_false hab]; rfl
  simp only [go_sem, hab, decide_false, reduceEqDiff, Nat.reduceBEq, reduceAdd, reduceIte, reduceCtorEq, reduceLeDiff]
  first
   | refine cp n23 (fin _ hf) (SubL.refl _) ?_
   | refine qp n23 (fin _ hf) (SubL.refl _) ?_
  by_cases hq : askE l (fineLost l a b) = 0
  ·have he : lostP l a b = lostAll l a.toNat b.toNat := by unfold lostP; rw [if_pos hq]
   rw [hq, he]
   obtain ⟨h, hfi, hp⟩ : isLineB l = true ∧ fineLost l a b = true ∧ possB l = true := by
    rcases askE_cases l (fineLost l a b) with ⟨e, _⟩ | ⟨e, _⟩ | ⟨_, h1, h2, h3⟩
    ·rw [e] at hq; cases hq
    ·rw [e] at hq; cases hq
    ·exact ⟨h1, h2, h3⟩
   have hw := (isLine_iff.1 h).lw
   unfold fineLost at hfi
   rw [Bool.and_eq_true, Bool.and_eq_true, inB_iff, inB_iff, decide_eq_true_iff] at hfi
   obtain ⟨x, rfl⟩ : ∃ x : Nat, a = x := ⟨a.toNat, by omega⟩
   obtain ⟨y, rfl⟩ : ∃ y : Nat, b = y := ⟨b.toNat, by omega⟩
   have hR := rLost_pc l hw (rSets_pos hw hp) x y (by omega) (by omega)
   rw [rLost_eq hw hp (by omega) (by omega)] at hR
   rw [Int.toNat_natCast, Int.toNat_natCast]
   have e2 := eq42s (lostAll l x y)
   generalize lostAll l x y = s at hR e2 ⊢
   obtain ⟨u, v⟩ := s
   have y0 : ¬ ((0 : Int) ≠ 0) := by decide
   have z0 : decide ((0 : Int) = 0) = true := rfl
   simp only [go_sem, y0, z0, decide_false, decide_true, reduceEqDiff, Nat.reduceBEq, reduceAdd, reduceIte, reduceCtorEq, reduceLeDiff]
   first
    | refine cp n39 hR (SubL.refl _) ?_
    | refine qp n39 hR (SubL.refl _) ?_
   simp only [go_sem, e2, reduceEqDiff, Nat.reduceBEq, reduceAdd, reduceIte, reduceCtorEq, reduceLeDiff]
   refine cp n20 known_pc (SubL.refl _) ?_
   simp only [go_sem, Tryz.f5, reduceEqDiff, Nat.reduceBEq, reduceAdd, reduceIte, reduceCtorEq, reduceLeDiff]
  ·have he : lostP l a b = ⟨0, 0⟩ := by unfold lostP; rw [if_neg hq]
   rw [he]
   have e2 := eq42s ⟨0, 0⟩
   have z1 : decide (askE l (fineLost l a b) ≠ 0) = true := decide_eq_true hq
   simp only [go_sem, z1, e2, decide_true, reduceEqDiff, Nat.reduceBEq, reduceAdd, reduceIte, reduceCtorEq, reduceLeDiff]
   refine cp n20 known_pc (SubL.refl _) ?_
   simp only [go_sem, Tryz.f5, reduceEqDiff, Nat.reduceBEq, reduceAdd, reduceIte, reduceCtorEq, reduceLeDiff]
set_option maxHeartbeats 4000000 in
theorem flows_tail2_115 (l : LLine) (ok : okLine l) (a b : Int) (B : Option Blk) (H : List (Option Blk)) :
  WC (E 157) (.seq (.seq (.draw [1, 2, 4, 11, 12, 18] 14 [] r5_18) (.seq (.region [1, 2, 4, 11, 12, 18, 132] r5_19) (.cond (.tmp 132) (.seq (.region [8] r5_20) .ret) .skip))) (.seq (.draw [8] 8 [] r5_21) .ret)) (bodyQ (E 157) Tryz.f5.results.toList (fun e x => e = AEnd.ret (AV.bool true)))
   [(1, .int .i64 a), (2, .int .i64 b), (4, .ref 0 0), (11, .ref 2 0), (12, .int .i64 (askE l (fineLost l a b))), (115, .bool false)] ⟨some (.cells (lineC l)) :: B :: some (.cells [.int .i64 (lostP l a b).low, .int .i64 (lostP l a b).high]) :: H, 0, []⟩ := by
 have fin : ∀ fine, fine = fineLost l a b → PC Tryz.prog 23 [lineA l, .bool fine] (.pure (.int .i64 (askE l (fineLost l a b)))) := fun fine e => by rw [e]; exact rasked_pc l ok _
 simp only [go_sem, reduceEqDiff, Nat.reduceBEq, reduceAdd, reduceIte, reduceCtorEq, reduceLeDiff]
 first
  | refine cp n37 (rPoint_pc l a) (SubL.refl _) ?_
  | refine qp n37 (rPoint_pc l a) (SubL.refl _) ?_
 cases ha : inB a 0 l.gives.length
 ·have hf : false = fineLost l a b := by unfold fineLost; rw [ha]; rfl
  simp only [go_sem, reduceEqDiff, Nat.reduceBEq, reduceAdd, reduceIte, reduceCtorEq, reduceLeDiff]
  first
   | refine cp n23 (fin _ hf) (SubL.refl _) ?_
   | refine qp n23 (fin _ hf) (SubL.refl _) ?_
  by_cases hq : askE l (fineLost l a b) = 0
  ·have he : lostP l a b = lostAll l a.toNat b.toNat := by unfold lostP; rw [if_pos hq]
   rw [hq, he]
   obtain ⟨h, hfi, hp⟩ : isLineB l = true ∧ fineLost l a b = true ∧ possB l = true := by
    rcases askE_cases l (fineLost l a b) with ⟨e, _⟩ | ⟨e, _⟩ | ⟨_, h1, h2, h3⟩
    ·rw [e] at hq; cases hq
    ·rw [e] at hq; cases hq
    ·exact ⟨h1, h2, h3⟩
   have hw := (isLine_iff.1 h).lw
   unfold fineLost at hfi
   rw [Bool.and_eq_true, Bool.and_eq_true, inB_iff, inB_iff, decide_eq_true_iff] at hfi
   obtain ⟨x, rfl⟩ : ∃ x : Nat, a = x := ⟨a.toNat, by omega⟩
   obtain ⟨y, rfl⟩ : ∃ y : Nat, b = y := ⟨b.toNat, by omega⟩
   have hR := rLost_pc l hw (rSets_pos hw hp) x y (by omega) (by omega)
   rw [rLost_eq hw hp (by omega) (by omega)] at hR
   rw [Int.toNat_natCast, Int.toNat_natCast]
   have e2 := eq42s (lostAll l x y)
   generalize lostAll l x y = s at hR e2 ⊢
   obtain ⟨u, v⟩ := s
   have y0 : ¬ ((0 : Int) ≠ 0) := by decide
   have z0 : decide ((0 : Int) = 0) = true := rfl
   simp only [go_sem, y0, z0, decide_false, decide_true, reduceEqDiff, Nat.reduceBEq, reduceAdd, reduceIte, reduceCtorEq, reduceLeDiff]
   first
    | refine cp n39 hR (SubL.refl _) ?_
    | refine qp n39 hR (SubL.refl _) ?_
   simp only [go_sem, e2, reduceEqDiff, Nat.reduceBEq, reduceAdd, reduceIte, reduceCtorEq, reduceLeDiff]
   refine cp n20 known_pc (SubL.refl _) ?_
   simp only [go_sem, Tryz.f5, reduceEqDiff, Nat.reduceBEq, reduceAdd, reduceIte, reduceCtorEq, reduceLeDiff]
  ·have he : lostP l a b = ⟨0, 0⟩ := by unfold lostP; rw [if_neg hq]
   rw [he]
   have e2 := eq42s ⟨0, 0⟩
   have z1 : decide (askE l (fineLost l a b) ≠ 0) = true := decide_eq_true hq
   simp only [go_sem, z1, e2, decide_true, reduceEqDiff, Nat.reduceBEq, reduceAdd, reduceIte, reduceCtorEq, reduceLeDiff]
   refine cp n20 known_pc (SubL.refl _) ?_
   simp only [go_sem, Tryz.f5, reduceEqDiff, Nat.reduceBEq, reduceAdd, reduceIte, reduceCtorEq, reduceLeDiff]
 simp only [go_sem, reduceEqDiff, Nat.reduceBEq, reduceAdd, reduceIte, reduceCtorEq, reduceLeDiff]
 first
  | refine cp n37 (rPoint_pc l b) (SubL.refl _) ?_
  | refine qp n37 (rPoint_pc l b) (SubL.refl _) ?_
 cases hb : inB b 0 l.gives.length
 ·have hf : false = fineLost l a b := by unfold fineLost; rw [ha, hb]; rfl
  simp only [go_sem, reduceEqDiff, Nat.reduceBEq, reduceAdd, reduceIte, reduceCtorEq, reduceLeDiff]
  first
   | refine cp n23 (fin _ hf) (SubL.refl _) ?_
   | refine qp n23 (fin _ hf) (SubL.refl _) ?_
  by_cases hq : askE l (fineLost l a b) = 0
  ·have he : lostP l a b = lostAll l a.toNat b.toNat := by unfold lostP; rw [if_pos hq]
   rw [hq, he]
   obtain ⟨h, hfi, hp⟩ : isLineB l = true ∧ fineLost l a b = true ∧ possB l = true := by
    rcases askE_cases l (fineLost l a b) with ⟨e, _⟩ | ⟨e, _⟩ | ⟨_, h1, h2, h3⟩
    ·rw [e] at hq; cases hq
    ·rw [e] at hq; cases hq
    ·exact ⟨h1, h2, h3⟩
   have hw := (isLine_iff.1 h).lw
   unfold fineLost at hfi
   rw [Bool.and_eq_true, Bool.and_eq_true, inB_iff, inB_iff, decide_eq_true_iff] at hfi
   obtain ⟨x, rfl⟩ : ∃ x : Nat, a = x := ⟨a.toNat, by omega⟩
   obtain ⟨y, rfl⟩ : ∃ y : Nat, b = y := ⟨b.toNat, by omega⟩
   have hR := rLost_pc l hw (rSets_pos hw hp) x y (by omega) (by omega)
   rw [rLost_eq hw hp (by omega) (by omega)] at hR
   rw [Int.toNat_natCast, Int.toNat_natCast]
   have e2 := eq42s (lostAll l x y)
   generalize lostAll l x y = s at hR e2 ⊢
   obtain ⟨u, v⟩ := s
   have y0 : ¬ ((0 : Int) ≠ 0) := by decide
   have z0 : decide ((0 : Int) = 0) = true := rfl
   simp only [go_sem, y0, z0, decide_false, decide_true, reduceEqDiff, Nat.reduceBEq, reduceAdd, reduceIte, reduceCtorEq, reduceLeDiff]
   first
    | refine cp n39 hR (SubL.refl _) ?_
    | refine qp n39 hR (SubL.refl _) ?_
   simp only [go_sem, e2, reduceEqDiff, Nat.reduceBEq, reduceAdd, reduceIte, reduceCtorEq, reduceLeDiff]
   refine cp n20 known_pc (SubL.refl _) ?_
   simp only [go_sem, Tryz.f5, reduceEqDiff, Nat.reduceBEq, reduceAdd, reduceIte, reduceCtorEq, reduceLeDiff]
  ·have he : lostP l a b = ⟨0, 0⟩ := by unfold lostP; rw [if_neg hq]
   rw [he]
   have e2 := eq42s ⟨0, 0⟩
   have z1 : decide (askE l (fineLost l a b) ≠ 0) = true := decide_eq_true hq
   simp only [go_sem, z1, e2, decide_true, reduceEqDiff, Nat.reduceBEq, reduceAdd, reduceIte, reduceCtorEq, reduceLeDiff]
   refine cp n20 known_pc (SubL.refl _) ?_
   simp only [go_sem, Tryz.f5, reduceEqDiff, Nat.reduceBEq, reduceAdd, reduceIte, reduceCtorEq, reduceLeDiff]
 by_cases hab : a ≤ b
 ·have hf : true = fineLost l a b := by unfold fineLost; rw [ha, hb, decide_eq_true hab]; rfl
  simp only [go_sem, hab, decide_true, reduceEqDiff, Nat.reduceBEq, reduceAdd, reduceIte, reduceCtorEq, reduceLeDiff]
  first
   | refine cp n23 (fin _ hf) (SubL.refl _) ?_
   | refine qp n23 (fin _ hf) (SubL.refl _) ?_
  by_cases hq : askE l (fineLost l a b) = 0
  ·have he : lostP l a b = lostAll l a.toNat b.toNat := by unfold lostP; rw [if_pos hq]
   rw [hq, he]
   obtain ⟨h, hfi, hp⟩ : isLineB l = true ∧ fineLost l a b = true ∧ possB l = true := by
    rcases askE_cases l (fineLost l a b) with ⟨e, _⟩ | ⟨e, _⟩ | ⟨_, h1, h2, h3⟩
    ·rw [e] at hq; cases hq
    ·rw [e] at hq; cases hq
    ·exact ⟨h1, h2, h3⟩
   have hw := (isLine_iff.1 h).lw
   unfold fineLost at hfi
   rw [Bool.and_eq_true, Bool.and_eq_true, inB_iff, inB_iff, decide_eq_true_iff] at hfi
   obtain ⟨x, rfl⟩ : ∃ x : Nat, a = x := ⟨a.toNat, by omega⟩
   obtain ⟨y, rfl⟩ : ∃ y : Nat, b = y := ⟨b.toNat, by omega⟩
   have hR := rLost_pc l hw (rSets_pos hw hp) x y (by omega) (by omega)
   rw [rLost_eq hw hp (by omega) (by omega)] at hR
   rw [Int.toNat_natCast, Int.toNat_natCast]
   have e2 := eq42s (lostAll l x y)
   generalize lostAll l x y = s at hR e2 ⊢
   obtain ⟨u, v⟩ := s
   have y0 : ¬ ((0 : Int) ≠ 0) := by decide
   have z0 : decide ((0 : Int) = 0) = true := rfl
   simp only [go_sem, y0, z0, decide_false, decide_true, reduceEqDiff, Nat.reduceBEq, reduceAdd, reduceIte, reduceCtorEq, reduceLeDiff]
   first
    | refine cp n39 hR (SubL.refl _) ?_
    | refine qp n39 hR (SubL.refl _) ?_
   simp only [go_sem, e2, reduceEqDiff, Nat.reduceBEq, reduceAdd, reduceIte, reduceCtorEq, reduceLeDiff]
   refine cp n20 known_pc (SubL.refl _) ?_
   simp only [go_sem, Tryz.f5, reduceEqDiff, Nat.reduceBEq, reduceAdd, reduceIte, reduceCtorEq, reduceLeDiff]
  ·have he : lostP l a b = ⟨0, 0⟩ := by unfold lostP; rw [if_neg hq]
   rw [he]
   have e2 := eq42s ⟨0, 0⟩
   have z1 : decide (askE l (fineLost l a b) ≠ 0) = true := decide_eq_true hq
   simp only [go_sem, z1, e2, decide_true, reduceEqDiff, Nat.reduceBEq, reduceAdd, reduceIte, reduceCtorEq, reduceLeDiff]
   refine cp n20 known_pc (SubL.refl _) ?_
   simp only [go_sem, Tryz.f5, reduceEqDiff, Nat.reduceBEq, reduceAdd, reduceIte, reduceCtorEq, reduceLeDiff]
 ·have hf : false = fineLost l a b := by unfold fineLost; rw [ha, hb, decide_eq_false hab]; rfl
  simp only [go_sem, hab, decide_false, reduceEqDiff, Nat.reduceBEq, reduceAdd, reduceIte, reduceCtorEq, reduceLeDiff]
  first
   | refine cp n23 (fin _ hf) (SubL.refl _) ?_
   | refine qp n23 (fin _ hf) (SubL.refl _) ?_
  by_cases hq : askE l (fineLost l a b) = 0
  ·have he : lostP l a b = lostAll l a.toNat b.toNat := by unfold lostP; rw [if_pos hq]
   rw [hq, he]
   obtain ⟨h, hfi, hp⟩ : isLineB l = true ∧ fineLost l a b = true ∧ possB l = true := by
    rcases askE_cases l (fineLost l a b) with ⟨e, _⟩ | ⟨e, _⟩ | ⟨_, h1, h2, h3⟩
    ·rw [e] at hq; cases hq
    ·rw [e] at hq; cases hq
    ·exact ⟨h1, h2, h3⟩
   have hw := (isLine_iff.1 h).lw
   unfold fineLost at hfi
   rw [Bool.and_eq_true, Bool.and_eq_true, inB_iff, inB_iff, decide_eq_true_iff] at hfi
   obtain ⟨x, rfl⟩ : ∃ x : Nat, a = x := ⟨a.toNat, by omega⟩
   obtain ⟨y, rfl⟩ : ∃ y : Nat, b = y := ⟨b.toNat, by omega⟩
   have hR := rLost_pc l hw (rSets_pos hw hp) x y (by omega) (by omega)
   rw [rLost_eq hw hp (by omega) (by omega)] at hR
   rw [Int.toNat_natCast, Int.toNat_natCast]
   have e2 := eq42s (lostAll l x y)
   generalize lostAll l x y = s at hR e2 ⊢
   obtain ⟨u, v⟩ := s
   have y0 : ¬ ((0 : Int) ≠ 0) := by decide
   have z0 : decide ((0 : Int) = 0) = true := rfl
   simp only [go_sem, y0, z0, decide_false, decide_true, reduceEqDiff, Nat.reduceBEq, reduceAdd, reduceIte, reduceCtorEq, reduceLeDiff]
   first
    | refine cp n39 hR (SubL.refl _) ?_
    | refine qp n39 hR (SubL.refl _) ?_
   simp only [go_sem, e2, reduceEqDiff, Nat.reduceBEq, reduceAdd, reduceIte, reduceCtorEq, reduceLeDiff]
   refine cp n20 known_pc (SubL.refl _) ?_
   simp only [go_sem, Tryz.f5, reduceEqDiff, Nat.reduceBEq, reduceAdd, reduceIte, reduceCtorEq, reduceLeDiff]
  ·have he : lostP l a b = ⟨0, 0⟩ := by unfold lostP; rw [if_neg hq]
   rw [he]
   have e2 := eq42s ⟨0, 0⟩
   have z1 : decide (askE l (fineLost l a b) ≠ 0) = true := decide_eq_true hq
   simp only [go_sem, z1, e2, decide_true, reduceEqDiff, Nat.reduceBEq, reduceAdd, reduceIte, reduceCtorEq, reduceLeDiff]
   refine cp n20 known_pc (SubL.refl _) ?_
   simp only [go_sem, Tryz.f5, reduceEqDiff, Nat.reduceBEq, reduceAdd, reduceIte, reduceCtorEq, reduceLeDiff]
set_option maxHeartbeats 4000000 in
theorem flows_tail1_62 (l : LLine) (ok : okLine l) (a b : Int) (H : List (Option Blk)) :
  WC (E 157) (.seq (.seq (.draw [1, 2, 4, 9, 10, 11, 12, 17] 4 [] r5_12) (.seq (.region [1, 2, 4, 9, 10, 11, 12, 17, 98] r5_13) (.cond (.tmp 98) (.seq (.region [1, 2, 4, 11, 12, 106] r5_14) (.cond (.tmp 106) (.seq (.region [8] r5_15) .ret) .skip)) (.seq (.draw [1, 2, 4, 11, 12, 115] 7 [] r5_16) (.cond (.tmp 115) (.seq (.region [8] r5_17) .ret) .skip))))) (.seq (.seq (.draw [1, 2, 4, 11, 12, 18] 14 [] r5_18) (.seq (.region [1, 2, 4, 11, 12, 18, 132] r5_19) (.cond (.tmp 132) (.seq (.region [8] r5_20) .ret) .skip))) (.seq (.draw [8] 8 [] r5_21) .ret))) (bodyQ (E 157) Tryz.f5.results.toList (fun e x => e = AEnd.ret (AV.bool true)))
   [(1, .int .i64 a), (2, .int .i64 b), (4, .ref 0 0), (9, .ref 1 0), (10, .int .i64 (askE l (inB a 0 l.gives.length))), (11, .ref 2 0), (12, .int .i64 (askE l (fineLost l a b))), (62, .bool false)] ⟨some (.cells (lineC l)) :: some (.cells [.int .i64 (flowsP l a).low, .int .i64 (flowsP l a).high]) :: some (.cells [.int .i64 (lostP l a b).low, .int .i64 (lostP l a b).high]) :: H, 0, []⟩ := by
 have tailA := fun B => flows_tail2_115 l ok a b B H
 have tailB := fun B => flows_tail2_106 l ok a b B H
 generalize lostP l a b = lp at tailA tailB ⊢
 generalize askE l (fineLost l a b) = le at tailA tailB ⊢
 have hA := rasked_pc l ok (inB a 0 l.gives.length)
 simp only [go_sem, reduceEqDiff, Nat.reduceBEq, reduceAdd, reduceIte, reduceCtorEq, reduceLeDiff]
 first
  | refine cp n37 (rPoint_pc l a) (SubL.refl _) ?_
  | refine qp n37 (rPoint_pc l a) (SubL.refl _) ?_
 simp only [go_sem, reduceEqDiff, Nat.reduceBEq, reduceAdd, reduceIte, reduceCtorEq, reduceLeDiff]
 first
  | refine cp n23 hA (SubL.refl _) ?_
  | refine qp n23 hA (SubL.refl _) ?_
 by_cases hq : askE l (inB a 0 l.gives.length) = 0
 ·have he : flowsP l a = flowsS l a.toNat := by unfold flowsP; rw [if_pos hq]
  rw [hq, he]
  obtain ⟨h, hfi, hp⟩ : isLineB l = true ∧ inB a 0 l.gives.length = true ∧ possB l = true := by
   rcases askE_cases l (inB a 0 l.gives.length) with ⟨e, _⟩ | ⟨e, _⟩ | ⟨_, h1, h2, h3⟩
   ·rw [e] at hq; cases hq
   ·rw [e] at hq; cases hq
   ·exact ⟨h1, h2, h3⟩
  have hw := (isLine_iff.1 h).lw
  rw [inB_iff] at hfi
  obtain ⟨x, rfl⟩ : ∃ x : Nat, a = x := ⟨a.toNat, by omega⟩
  have hR := rFlows_pc l hw x (by omega)
  rw [rFlows_eq hw hp (by omega)] at hR
  rw [Int.toNat_natCast]
  have e2 := ne42s (flowsS l x)
  generalize flowsS l x = s at hR e2 ⊢
  obtain ⟨u, v⟩ := s
  have y0 : ¬ ((0 : Int) ≠ 0) := by decide
  have tl := tailA (some (.cells [.int .i64 u, .int .i64 v]))
  simp only [go_sem, y0, decide_false, reduceEqDiff, Nat.reduceBEq, reduceAdd, reduceIte, reduceCtorEq, reduceLeDiff]
  first
   | refine cp n38 hR (SubL.refl _) ?_
   | refine qp n38 hR (SubL.refl _) ?_
  simp only [go_sem, e2, reduceEqDiff, Nat.reduceBEq, reduceAdd, reduceIte, reduceCtorEq, reduceLeDiff]
  simp only [go_sem, reduceEqDiff, Nat.reduceBEq, reduceAdd, reduceIte, reduceCtorEq, reduceLeDiff] at tl
  exact tl
 ·have he : flowsP l a = ⟨0, 0⟩ := by unfold flowsP; rw [if_neg hq]
  rw [he]
  have e2 := ne42s ⟨0, 0⟩
  have z1 : decide (askE l (inB a 0 l.gives.length) ≠ 0) = true := decide_eq_true hq
  have z2 : decide (askE l (inB a 0 l.gives.length) ≠ askE l (inB a 0 l.gives.length)) = false := decide_eq_false (fun h => h rfl)
  have tl := tailB (some (.cells [.int .i64 0, .int .i64 0]))
  simp only [go_sem, z1, z2, e2, reduceEqDiff, Nat.reduceBEq, reduceAdd, reduceIte, reduceCtorEq, reduceLeDiff]
  simp only [go_sem, reduceEqDiff, Nat.reduceBEq, reduceAdd, reduceIte, reduceCtorEq, reduceLeDiff] at tl
  exact tl
set_option maxHeartbeats 4000000 in
theorem flows_tail1_91 (l : LLine) (ok : okLine l) (a b : Int) (H : List (Option Blk)) :
  WC (E 157) (.seq (.seq (.draw [1, 2, 4, 9, 10, 11, 12, 17] 4 [] r5_12) (.seq (.region [1, 2, 4, 9, 10, 11, 12, 17, 98] r5_13) (.cond (.tmp 98) (.seq (.region [1, 2, 4, 11, 12, 106] r5_14) (.cond (.tmp 106) (.seq (.region [8] r5_15) .ret) .skip)) (.seq (.draw [1, 2, 4, 11, 12, 115] 7 [] r5_16) (.cond (.tmp 115) (.seq (.region [8] r5_17) .ret) .skip))))) (.seq (.seq (.draw [1, 2, 4, 11, 12, 18] 14 [] r5_18) (.seq (.region [1, 2, 4, 11, 12, 18, 132] r5_19) (.cond (.tmp 132) (.seq (.region [8] r5_20) .ret) .skip))) (.seq (.draw [8] 8 [] r5_21) .ret))) (bodyQ (E 157) Tryz.f5.results.toList (fun e x => e = AEnd.ret (AV.bool true)))
   [(1, .int .i64 a), (2, .int .i64 b), (4, .ref 0 0), (9, .ref 1 0), (10, .int .i64 (askE l (inB a 0 l.gives.length))), (11, .ref 2 0), (12, .int .i64 (askE l (fineLost l a b))), (91, .bool false)] ⟨some (.cells (lineC l)) :: some (.cells [.int .i64 (flowsP l a).low, .int .i64 (flowsP l a).high]) :: some (.cells [.int .i64 (lostP l a b).low, .int .i64 (lostP l a b).high]) :: H, 0, []⟩ := by
 have tailA := fun B => flows_tail2_115 l ok a b B H
 have tailB := fun B => flows_tail2_106 l ok a b B H
 generalize lostP l a b = lp at tailA tailB ⊢
 generalize askE l (fineLost l a b) = le at tailA tailB ⊢
 have hA := rasked_pc l ok (inB a 0 l.gives.length)
 simp only [go_sem, reduceEqDiff, Nat.reduceBEq, reduceAdd, reduceIte, reduceCtorEq, reduceLeDiff]
 first
  | refine cp n37 (rPoint_pc l a) (SubL.refl _) ?_
  | refine qp n37 (rPoint_pc l a) (SubL.refl _) ?_
 simp only [go_sem, reduceEqDiff, Nat.reduceBEq, reduceAdd, reduceIte, reduceCtorEq, reduceLeDiff]
 first
  | refine cp n23 hA (SubL.refl _) ?_
  | refine qp n23 hA (SubL.refl _) ?_
 by_cases hq : askE l (inB a 0 l.gives.length) = 0
 ·have he : flowsP l a = flowsS l a.toNat := by unfold flowsP; rw [if_pos hq]
  rw [hq, he]
  obtain ⟨h, hfi, hp⟩ : isLineB l = true ∧ inB a 0 l.gives.length = true ∧ possB l = true := by
   rcases askE_cases l (inB a 0 l.gives.length) with ⟨e, _⟩ | ⟨e, _⟩ | ⟨_, h1, h2, h3⟩
   ·rw [e] at hq; cases hq
   ·rw [e] at hq; cases hq
   ·exact ⟨h1, h2, h3⟩
  have hw := (isLine_iff.1 h).lw
  rw [inB_iff] at hfi
  obtain ⟨x, rfl⟩ : ∃ x : Nat, a = x := ⟨a.toNat, by omega⟩
  have hR := rFlows_pc l hw x (by omega)
  rw [rFlows_eq hw hp (by omega)] at hR
  rw [Int.toNat_natCast]
  have e2 := ne42s (flowsS l x)
  generalize flowsS l x = s at hR e2 ⊢
  obtain ⟨u, v⟩ := s
  have y0 : ¬ ((0 : Int) ≠ 0) := by decide
  have tl := tailA (some (.cells [.int .i64 u, .int .i64 v]))
  simp only [go_sem, y0, decide_false, reduceEqDiff, Nat.reduceBEq, reduceAdd, reduceIte, reduceCtorEq, reduceLeDiff]
  first
   | refine cp n38 hR (SubL.refl _) ?_
   | refine qp n38 hR (SubL.refl _) ?_
  simp only [go_sem, e2, reduceEqDiff, Nat.reduceBEq, reduceAdd, reduceIte, reduceCtorEq, reduceLeDiff]
  simp only [go_sem, reduceEqDiff, Nat.reduceBEq, reduceAdd, reduceIte, reduceCtorEq, reduceLeDiff] at tl
  exact tl
 ·have he : flowsP l a = ⟨0, 0⟩ := by unfold flowsP; rw [if_neg hq]
  rw [he]
  have e2 := ne42s ⟨0, 0⟩
  have z1 : decide (askE l (inB a 0 l.gives.length) ≠ 0) = true := decide_eq_true hq
  have z2 : decide (askE l (inB a 0 l.gives.length) ≠ askE l (inB a 0 l.gives.length)) = false := decide_eq_false (fun h => h rfl)
  have tl := tailB (some (.cells [.int .i64 0, .int .i64 0]))
  simp only [go_sem, z1, z2, e2, reduceEqDiff, Nat.reduceBEq, reduceAdd, reduceIte, reduceCtorEq, reduceLeDiff]
  simp only [go_sem, reduceEqDiff, Nat.reduceBEq, reduceAdd, reduceIte, reduceCtorEq, reduceLeDiff] at tl
  exact tl
set_option maxHeartbeats 8000000 in
theorem LeakFlows_pc (l : LLine) (ok : okLine l) (a b : Int) (set : List Int) (hs : okL set.length) : PC Tryz.prog 5 [lineA l, .int .i64 a, .int .i64 b, sl set] (.pure (.bool true)) := by
 refine PC.of_empty (AC.run (E_ok _) mix Tryz.func5 m5 rfl rfl rfl (Nat.le_of_ble_eq_true rfl) ?_) (by simp [bndL, AV.bnd]) rfl
 simp only [go_sem, boxA, reduceEqDiff, Nat.reduceBEq, reduceAdd, reduceIte, reduceCtorEq, reduceLeDiff]
 refine cp n19 (short_pc l) (SubL.refl _) ?_
 cases hsh : (decide ((l.gives.length : Int) ≤ 7) && decide ((l.counts.length : Int) ≤ 10))
 ·simp only [go_sem, un_not, Bool.not_false, reduceEqDiff, Nat.reduceBEq, reduceAdd, reduceIte, reduceCtorEq, reduceLeDiff]
  refine cp n20 known_pc (SubL.refl _) ?_
  simp only [go_sem, Tryz.f5, reduceEqDiff, Nat.reduceBEq, reduceAdd, reduceIte, reduceCtorEq, reduceLeDiff]
 by_cases h4 : (set.length : Int) > 4
 ·simp only [go_sem, un_not, Bool.not_true, builtinA, h4, decide_true, reduceEqDiff, Nat.reduceBEq, reduceAdd, reduceIte, reduceCtorEq, reduceLeDiff]
  refine cp n20 known_pc (SubL.refl _) ?_
  simp only [go_sem, Tryz.f5, reduceEqDiff, Nat.reduceBEq, reduceAdd, reduceIte, reduceCtorEq, reduceLeDiff]
 simp only [go_sem, un_not, Bool.not_true, builtinA, h4, decide_false, reduceEqDiff, Nat.reduceBEq, reduceAdd, reduceIte, reduceCtorEq, reduceLeDiff]
 have hFl := Flows_pc l ok a
 rw [flowsA_eq] at hFl
 have hLo := Lost_pc l ok a b
 rw [lostA_eq] at hLo
 have tailA := flows_tail1_62 l ok a b
 have tailB := flows_tail1_91 l ok a b
 generalize flowsP l a = fp at hFl tailA tailB
 generalize lostP l a b = lp at hLo tailA tailB
 generalize askE l (inB a 0 l.gives.length) = fe at hFl tailA tailB
 generalize askE l (fineLost l a b) = le at hLo tailA tailB
 obtain ⟨f1, f2⟩ := fp
 obtain ⟨g1, g2⟩ := lp
 have hE := Explains_pc l ok set hs
 refine cp n34 hFl (SubL.refl _) ?_
 simp only [go_sem, extractA, put_eq, reduceEqDiff, Nat.reduceBEq, reduceAdd, reduceIte, reduceCtorEq, reduceLeDiff]
 refine cp n35 hLo (SubL.refl _) ?_
 simp only [go_sem, extractA, put_eq, reduceEqDiff, Nat.reduceBEq, reduceAdd, reduceIte, reduceCtorEq, reduceLeDiff]
 have e0 := ne42 0 0 0 0
 have y2 : ¬ ((2 : Int) ≠ 2) := by decide
 cases h : isLineB l
 ·have hE' : PC Tryz.prog 30 [lineA l, sl set] (.pure (.tuple [spA ⟨0, 0⟩, .int .i64 2])) := by
   unfold explA at hE; rw [if_neg (by rw [h]; simp)] at hE; exact hE
  have hL := rLine_pc l ok
  rw [h] at hL
  refine cp n30 hE' (SubL.refl _) ?_
  simp only [go_sem, extractA, put_eq, reduceEqDiff, Nat.reduceBEq, reduceAdd, reduceIte, reduceCtorEq, reduceLeDiff]
  refine cp n28 hL (SubL.refl _) ?_
  have tl := tailA [some (.cells [.int .i64 0, .int .i64 0])]
  simp only [go_sem, un_not, Bool.not_false, y2, decide_false, e0, decide_true, Bool.not_true, reduceEqDiff, Nat.reduceBEq, reduceAdd, reduceIte, reduceCtorEq, reduceLeDiff]
  simp only [go_sem, reduceEqDiff, Nat.reduceBEq, reduceAdd, reduceIte, reduceCtorEq, reduceLeDiff] at tl
  exact tl
 have hL := rLine_pc l ok
 rw [h] at hL
 have hln := isLine_iff.1 h
 have hw := hln.lw
 have hS := rSet_pc l ok.1 set hs
 cases hset : (isSetB l set && decide ((set.length : Int) ≤ 2))
 ·rw [hset] at hS
  have hE' : PC Tryz.prog 30 [lineA l, sl set] (.pure (.tuple [spA ⟨0, 0⟩, .int .i64 2])) := by
   unfold explA at hE
   by_cases h2 : set.length ≤ 2
   ·rw [decide_eq_true (by omega), Bool.and_true] at hset
    rw [if_pos ⟨h, h2⟩, if_neg (by rw [hset]; decide)] at hE; exact hE
   ·rw [if_neg (by omega)] at hE; exact hE
  refine cp n30 hE' (SubL.refl _) ?_
  simp only [go_sem, extractA, put_eq, reduceEqDiff, Nat.reduceBEq, reduceAdd, reduceIte, reduceCtorEq, reduceLeDiff]
  refine cp n28 hL (SubL.refl _) ?_
  simp only [go_sem, un_not, Bool.not_true, reduceEqDiff, Nat.reduceBEq, reduceAdd, reduceIte, reduceCtorEq, reduceLeDiff]
  refine cp n29 hS (SubL.refl _) ?_
  have tl := tailA [some (.cells [.int .i64 0, .int .i64 0])]
  simp only [go_sem, un_not, Bool.not_false, y2, decide_false, e0, decide_true, Bool.not_true, reduceEqDiff, Nat.reduceBEq, reduceAdd, reduceIte, reduceCtorEq, reduceLeDiff]
  simp only [go_sem, reduceEqDiff, Nat.reduceBEq, reduceAdd, reduceIte, reduceCtorEq, reduceLeDiff] at tl
  exact tl
 rw [hset] at hS
 rw [Bool.and_eq_true, decide_eq_true_iff] at hset
 have h2 : set.length ≤ 2 := by omega
 have hR := rExplains_pc l hw set (by omega)
 unfold explA at hE
 rw [if_pos ⟨h, h2⟩, if_pos hset.1] at hE
 cases hx : explM l set with
 | none =>
  have hE' : PC Tryz.prog 30 [lineA l, sl set] (.pure (.tuple [spA ⟨0, 0⟩, .int .i64 5])) := by rw [hx] at hE; exact hE
  have hwB : withB l set = false := by
   cases hb : withB l set
   ·rfl
   ·have := (expl_iff hw set).2 ((withB_iff hw set).1 hb)
    rw [hx] at this; cases this
  rw [hwB] at hR
  have hR' : PC Tryz.prog 36 [lineA l, sl set] (.pure (.tuple [spA ⟨0, 0⟩, .bool false])) := hR
  refine cp n30 hE' (SubL.refl _) ?_
  simp only [go_sem, extractA, put_eq, reduceEqDiff, Nat.reduceBEq, reduceAdd, reduceIte, reduceCtorEq, reduceLeDiff]
  refine cp n28 hL (SubL.refl _) ?_
  simp only [go_sem, un_not, Bool.not_true, reduceEqDiff, Nat.reduceBEq, reduceAdd, reduceIte, reduceCtorEq, reduceLeDiff]
  refine cp n29 hS (SubL.refl _) ?_
  simp only [go_sem, un_not, Bool.not_true, reduceEqDiff, Nat.reduceBEq, reduceAdd, reduceIte, reduceCtorEq, reduceLeDiff]
  refine cp n36 hR' (SubL.refl _) ?_
  have tl := tailB [some (.cells [.int .i64 0, .int .i64 0]), some (.cells [.int .i64 0, .int .i64 0])]
  have y5 : ¬ ((5 : Int) ≠ 5) := by decide
  simp only [go_sem, extractA, put_eq, un_not, Bool.not_false, y5, decide_false, e0, decide_true, Bool.not_true, reduceEqDiff, Nat.reduceBEq, reduceAdd, reduceIte, reduceCtorEq, reduceLeDiff]
  simp only [go_sem, reduceEqDiff, Nat.reduceBEq, reduceAdd, reduceIte, reduceCtorEq, reduceLeDiff] at tl
  exact tl
 | some W =>
  have hE' : PC Tryz.prog 30 [lineA l, sl set] (.pure (.tuple [spA (lostS l W 0 l.gives.length), .int .i64 0])) := by rw [hx] at hE; exact hE
  have hwB := some_with hw hx
  rw [if_pos hwB, hwB, rExpl_eq hw hx] at hR
  have e2 := ne42s (lostS l W 0 l.gives.length)
  generalize lostS l W 0 l.gives.length = s at hR hE' e2
  obtain ⟨u, v⟩ := s
  refine cp n30 hE' (SubL.refl _) ?_
  simp only [go_sem, extractA, put_eq, reduceEqDiff, Nat.reduceBEq, reduceAdd, reduceIte, reduceCtorEq, reduceLeDiff]
  refine cp n28 hL (SubL.refl _) ?_
  simp only [go_sem, un_not, Bool.not_true, reduceEqDiff, Nat.reduceBEq, reduceAdd, reduceIte, reduceCtorEq, reduceLeDiff]
  refine cp n29 hS (SubL.refl _) ?_
  simp only [go_sem, un_not, Bool.not_true, reduceEqDiff, Nat.reduceBEq, reduceAdd, reduceIte, reduceCtorEq, reduceLeDiff]
  refine cp n36 hR (SubL.refl _) ?_
  have tl := tailB [some (.cells [.int .i64 u, .int .i64 v]), some (.cells [.int .i64 u, .int .i64 v])]
  have y0 : ¬ ((0 : Int) ≠ 0) := by decide
  simp only [go_sem, extractA, put_eq, un_not, Bool.not_true, y0, decide_false, e2, decide_true, reduceEqDiff, Nat.reduceBEq, reduceAdd, reduceIte, reduceCtorEq, reduceLeDiff]
  simp only [go_sem, reduceEqDiff, Nat.reduceBEq, reduceAdd, reduceIte, reduceCtorEq, reduceLeDiff] at tl
  exact tl
end Go.Av.Fx
end
section
set_option maxRecDepth 100000
namespace Go.Av.Fx
open Go Go.Av Go.Av.Tb Go.Proofs Go.ChangeShapes Go.WideShapes Go.RowKit
def cW (W : World) : Cx :=
 {K := fun b o => W.cell? ⟨b, o, none⟩, μ := fun _ => none, τ := fun _ => none, X := fun _ _ => none
  XO := fun b => match W.heap[b]? with
   | some (.cells _ _ _) => none
   | o => o
  sz := W.heap.size, FZ := ⟨fun _ _ => false, W⟩ }
structure TabOk (W : World) : Prop where
 tab : ∀ i, i < 20 → W.cell? ⟨tabB, i, none⟩ = some (tabV i)
 tsh : ∃ t, W.shape? tabB = some (t, 20)
theorem cW_st {W : World} (h : TabOk W) : StRel (cW W) St.empty W where
 sz := Nat.le_refl _
 tab := h.tab
 tsh := h.tsh
 fr := Frm.refl W
 K := fun _ _ _ e => e
 X := fun _ _ _ e => by cases e
 XO := fun b ob e => by
  simp only [cW] at e
  split at e
  ·cases e
  ·rename_i hn
   exact ⟨e, fun cs t f he => hn cs t f (by rw [e, he])⟩
 F := fun _ _ e => by cases e
 dom := fun _ _ e => by cases e
 tdom := fun _ _ e => by cases e
 blk := fun i B e => by simp [St.empty] at e
 inj := fun i j Bi Bj n e => by simp [St.empty] at e
 tok := fun k hk => by cases hk
 tinj := fun k k' b lo hi lo' hi' hk => by cases hk
 tblk := fun k i b lo hi B hk => by cases hk
structure Keep (W W' : World) : Prop where
 os : W'.os = W.os
 out : W'.output = W.output
 block : ∀ k, k < W.heap.size → W'.heap[k]? = W.heap[k]?
theorem keep_of {W W' : World} {c' : Cx} {S' : St} (hle : (cW W).le c') (h : StRel c' S' W') : Keep W W' := by
 have hfr : Frm W W' := by have := h.fr; rw [hle.FZ] at this; exact this
 refine ⟨hfr.os, hfr.out, fun k hk => ?_⟩
 have hob : W.heap[k]? = some W.heap[k] := Array.getElem?_eq_getElem hk
 rw [hob]
 cases ho : W.heap[k] with
 | cells cs t fr =>
  rw [ho] at hob
  obtain ⟨cs', e1, e2⟩ := hfr.blk k cs t fr hob
  rw [e1]
  congr 2
  apply Array.ext
  ·exact e2
  ·intro j h1 h2
   have hc : W.cell? ⟨k, j, none⟩ = some cs[j] := by
    unfold World.cell?
    simp [hob, h2]
   have := h.K k j _ (hle.K k j _ hc)
   unfold World.cell? at this
   simp [e1, h1] at this
   exact this
 | _ =>
  rw [ho] at hob
  exact (h.XO k _ (by rw [hle.XO]; simp only [cW, hob])).1
theorem Keep.keptBut {W W' : World} (h : Keep W W') (may : MemPlace → Prop) : W.keptBut W' may := by
 refine ⟨h.os, h.out, fun i hi => ?_⟩
 rw [h.block i hi, Array.getElem?_eq_getElem hi]
 cases W.heap[i] with
 | cells c t fr => exact ⟨rfl, rfl, rfl, fun _ _ => rfl⟩
 | map es clock => exact .inr ⟨rfl, rfl⟩
 | _ => rfl
theorem Keep.same {W W' : World} (h : Keep W W') {p : MemPlace} (hp : p.block < W.heap.size) : W.sameAt W' p := by
 cases p with
 | cell b o => exact World.cell?_of_block (w := W) (h.block b hp)
 | map b => exact h.block b hp
theorem Keep.trod {H : Type} {enc : TypeId × Value → H} {P : Program} {t : TypeId} (hl : laidOutB P = true) (hr : P.readableRec t = true) (hrow : t < P.types.size) {W W' : World} {v : Value} {d : DataW H} {ps : List MemPlace}
  (h : DataW.Trod enc P W 0 (fun _ => true) true t v d ps) (hb : Keep W W') (hlt : ∀ x ∈ ps, x.block < W.heap.size) :
  DataW.Trod enc P W' 0 (fun b => decide (b < W.heap.size)) true t v d ps :=
 WideElems.Trod_stays hl hr hrow h (fun x hx => hb.same (hlt x hx)) (fun x hx => by simpa using hlt x hx)
theorem law_calls {f : FuncId} {args : List AV} {W : World} {vs : List Value} (h : PC Tryz.prog f args (.pure (.bool true))) (ht : TabOk W) (hl : LRel (cW W) args vs) :
  Calls Tryz.prog f vs.toArray W fun e W' => e = .returned (.bool true) ∧ Keep W W' := by
 refine (h (cW W) St.empty W vs (cW_st ht) hl).mono ?_
 rintro e W' ⟨x, rfl, c', hle, _, _, hst, hv⟩
 refine ⟨?_, keep_of hle hst⟩
 cases hv; rfl
theorem cells_of {W : World} {b off : Nat} {l : List AV} {n cap : Nat} (hc : n ≤ cap) (h : ∀ j x, l[j]? = some x → ∃ v, W.cell? ⟨b, off + j, none⟩ = some v ∧ VRel (cW W) x v) : VRel (cW W) (.slice l n .unk) (.slice (some ⟨b, off, none⟩) n cap) := by
 have get : ∀ j (hj : j < l.length), ∃ v, W.cell? ⟨b, off + j, none⟩ = some v ∧ VRel (cW W) l[j] v := fun j hj => h j _ (List.getElem?_eq_getElem hj)
 refine .slice l n .unk b off cap (fun j => (W.cell? ⟨b, off + j, none⟩).getD default) hc (fun j hj => ?_) (fun j x hx => ?_) (fun e => by cases e) (fun k e => by cases e)
 ·obtain ⟨v, h1, h2⟩ := get j hj
  show W.cell? _ = some ((W.cell? _).getD default)
  rw [h1]; rfl
 ·obtain ⟨v, h1, h2⟩ := h j x hx
  rw [h1]; exact h2
theorem add_at (b off i : Nat) : (⟨b, off, none⟩ : Addr).add i = ⟨b, off + i, none⟩ := add_plain b off i
theorem has_spot {W : World} {base : Nat} {t e : TypeId} {a : Addr} {len cap : Nat} (ht : Tryz.prog.underlying t = some (.slice e)) (h : Cell.okWide Tryz.prog W .any base t (.slice (some a) len cap)) : a.spot = none := by
 simp only [Cell.okWide, ht, Cell.ok] at h
 exact h.2.2.2.1
section
variable {H : Type} {enc : TypeId × Value → H} {W : World} {base : Nat} {fuel : Nat} {x : DataW H × List MemPlace}
theorem av_ints {v : Value} (h : DataW.trod enc Tryz.prog W 0 (fun _ => true) true fuel 22 [v] = some x) (hw : ∀ n ∈ x.1.weights Tryz.prog 22, n ≤ reachBytes) (hok : Cell.okWide Tryz.prog W .any base 22 v) : ∃ l : List Int, VRel (cW W) (sl l) v ∧ okL l.length := by
 rcases open_ints Tryz.underlying22 Tryz.underlying3 (by kernel_rfl) h with ⟨hcs, _⟩ | ⟨a, len, cap, zs, hcs, _, hl, hm, hz, hx, hcell, _⟩
 ·cases hcs
  exact ⟨[], .sliceNil .unk (fun k e => by cases e), Nat.zero_lt_succ _⟩
 ·cases hcs
  have hsp := has_spot Tryz.underlying22 hok
  obtain ⟨b, off, spot⟩ := a
  simp only at hsp
  subst hsp
  have hz : zs.length = cap := by simpa using hz
  have hlen : (zs.take len).length = len := by rw [List.length_take]; omega
  have hsize : len < 9223372036854775807 := by
   subst hx
   have h8 : Tryz.prog.bytesOf 3 = 8 := by kernel_rfl
   have := hw (((lits .i64 (zs.take len) : List (DataW H)).length + (lits .i64 (zs.drop len) : List (DataW H)).length) * 8) (by
    simp only [DataW.weights, Tryz.underlying22, h8]
    exact List.mem_cons_self)
   have e1 : (lits .i64 (zs.take len) : List (DataW H)).length = len := by simp [lits]; omega
   rw [e1] at this
   unfold reachBytes at this
   omega
  refine ⟨zs.take len, ?_, by rw [hlen]; exact hsize⟩
  show VRel (cW W) (.slice (ints (zs.take len)) (zs.take len).length .unk) _
  rw [hlen]
  refine cells_of hl fun j y hy => ?_
  rw [ints_get] at hy
  have hj : j < (zs.take len).length := by
   rcases Nat.lt_or_ge j (zs.take len).length with h' | h'
   ·exact h'
   ·rw [List.getElem?_eq_none h'] at hy; cases hy
  rw [List.getElem?_eq_getElem hj] at hy
  cases hy
  have hj2 : j < zs.length := by omega
  have hc := hcell j hj2
  rw [add_at] at hc
  refine ⟨_, hc, ?_⟩
  rw [List.getElem_take, List.getD_eq_getElem?_getD, List.getElem?_eq_getElem hj2]
  exact .int _ _
theorem av_int {v : Value} (h : DataW.trod enc Tryz.prog W 0 (fun _ => true) true fuel 3 [v] = some x) : ∃ n : Int, v = .int .i64 n ∧ (Lit.int .i64 n).wf = true := by
 obtain ⟨n, hcs, _, hw⟩ := DataW.trod_int Tryz.underlying3 h
 cases hcs
 exact ⟨n, rfl, hw⟩
theorem av_cnt {cs : List Value} (h : DataW.trod enc Tryz.prog W 0 (fun _ => true) true fuel 82 cs = some x) : ∃ c : Cnt, cs = [.int .i64 c.point, .int .i64 c.low, .int .i64 c.high] := by
 obtain ⟨xs, n, _, _, hl, hlen, hf⟩ := DataW.trod_struct Tryz.underlying82 h
 have hc : Tryz.prog.cellsOf 82 = 3 := by kernel_rfl
 have hc3 : Tryz.prog.cellsOf 3 = 1 := by kernel_rfl
 rw [hc] at hl
 match cs, hl with
 | [a, b, d], _ =>
  match xs, hlen with
  | [y0, y1, y2], _ =>
   have h0 : DataW.trod enc Tryz.prog W 0 (fun _ => true) true n 3 (([a, b, d].drop 0).take (Tryz.prog.cellsOf 3)) = some y0 := hf 0 _ rfl
   have h1 : DataW.trod enc Tryz.prog W 0 (fun _ => true) true n 3 (([a, b, d].drop 1).take (Tryz.prog.cellsOf 3)) = some y1 := hf 1 _ rfl
   have h2 : DataW.trod enc Tryz.prog W 0 (fun _ => true) true n 3 (([a, b, d].drop 2).take (Tryz.prog.cellsOf 3)) = some y2 := hf 2 _ rfl
   rw [hc3] at h0 h1 h2
   obtain ⟨p, rfl, _⟩ := av_int h0
   obtain ⟨q, rfl, _⟩ := av_int h1
   obtain ⟨r, rfl, _⟩ := av_int h2
   exact ⟨⟨p, q, r⟩, rfl⟩
theorem cnts_get : ∀ (l : List Cnt) (j : Nat) (y : AV), (cnts l)[j]? = some y → ∃ (i q : Nat) (hi : i < l.length), j = i * 3 + q ∧ q < 3 ∧ (cntC l[i])[q]? = some y
 | [], j, y, h => by simp [cnts] at h
 | c :: l, j, y, h => by
  have e : cnts (c :: l) = cntC c ++ cnts l := by simp [cnts]
  rw [e] at h
  by_cases hj : j < 3
  ·rw [List.getElem?_append_left (by simpa using hj)] at h
   exact ⟨0, j, by simp, by omega, hj, h⟩
  ·rw [List.getElem?_append_right (by simp; omega)] at h
   obtain ⟨i, q, hi, e1, e2, e3⟩ := cnts_get l _ y h
   refine ⟨i + 1, q, by simpa using hi, ?_, e2, e3⟩
   simp at e1; omega
theorem av_cnts {v : Value} (h : DataW.trod enc Tryz.prog W 0 (fun _ => true) true fuel 23 [v] = some x) (hw : ∀ n ∈ x.1.weights Tryz.prog 23, n ≤ reachBytes) (hok : Cell.okWide Tryz.prog W .any base 23 v) : ∃ l : List Cnt, VRel (cW W) (.slice (cnts l) l.length .unk) v ∧ okL l.length := by
 rcases Go.Deep.open_slice Tryz.underlying23 h with ⟨hcs, _⟩ | ⟨a, len, cap, m, n, D, Pl, hcs, _, hl, hm, hmm, hxx, hx⟩
 ·cases hcs
  exact ⟨[], .sliceNil .unk (fun k e => by cases e), Nat.zero_lt_succ _⟩
 ·cases hcs
  have hsp := has_spot Tryz.underlying23 hok
  obtain ⟨b, off, spot⟩ := a
  simp only at hsp
  subst hsp
  have hmc : m = cap := by simpa using hmm
  have hc : Tryz.prog.cellsOf 82 = 3 := by kernel_rfl
  rw [hc] at hx
  have each : ∀ i, i < len → ∃ c : Cnt, ∀ (q : Nat) (y : AV), (cntC c)[q]? = some y → ∃ u, W.cell? ⟨b, off + (i * 3 + q), none⟩ = some u ∧ VRel (cW W) y u := by
   intro i hi
   obtain ⟨cs', h1, h2⟩ := hx i (by omega)
   obtain ⟨c, rfl⟩ := av_cnt h2
   obtain ⟨_, _, hcell⟩ := World.cells?_some h1
   refine ⟨c, fun q y hy => ?_⟩
   have hq : q < 3 := by
    rcases Nat.lt_or_ge q 3 with h' | h'
    ·exact h'
    ·rw [List.getElem?_eq_none (by simpa using h')] at hy; cases hy
   have hcq := hcell q (by simpa using hq)
   rw [add_at, add_at, Nat.add_assoc] at hcq
   match q, hq, hy with
   | 0, _, hy => cases hy; exact ⟨_, hcq, .int _ _⟩
   | 1, _, hy => cases hy; exact ⟨_, hcq, .int _ _⟩
   | 2, _, hy => cases hy; exact ⟨_, hcq, .int _ _⟩
  obtain ⟨F, hF⟩ : ∃ F : Nat → Cnt, ∀ i, i < len → ∀ (q : Nat) (y : AV), (cntC (F i))[q]? = some y → ∃ u, W.cell? ⟨b, off + (i * 3 + q), none⟩ = some u ∧ VRel (cW W) y u :=
   ⟨fun i => if hi : i < len then (each i hi).choose else ⟨0, 0, 0⟩, fun i hi => by
    show ∀ (q : Nat) (y : AV), (cntC (if hi : i < len then (each i hi).choose else ⟨0, 0, 0⟩))[q]? = some y → _
    rw [dif_pos hi]; exact (each i hi).choose_spec⟩
  have hlen : ((List.range len).map F).length = len := by simp
  have hsize : len < 9223372036854775807 := by
   subst hxx
   have h8 : Tryz.prog.bytesOf 82 = 24 := by kernel_rfl
   have := hw ((((List.range len).map D).length + ((List.range (m - len)).map fun j => D (len + j)).length) * 24) (by
    simp only [DataW.weights, Tryz.underlying23, h8]
    exact List.mem_cons_self)
   rw [List.length_map, List.length_range] at this
   unfold reachBytes at this
   omega
  refine ⟨(List.range len).map F, ?_, by rw [hlen]; exact hsize⟩
  rw [hlen]
  refine cells_of hl fun j y hy => ?_
  obtain ⟨i, q, hi, rfl, _, e3⟩ := cnts_get _ j y hy
  rw [hlen] at hi
  have e4 : ((List.range len).map F)[i] = F i := by simp
  rw [e4] at e3
  exact hF i hi q y e3
end
theorem av_line {H : Type} {enc : TypeId × Value → H} {W : World} {base : Nat} {v : Value} {d : DataW H} {ps : List MemPlace} (h : DataW.Trod enc Tryz.prog W 0 (fun _ => true) true 25 v d ps) (hw : ∀ n ∈ d.weights Tryz.prog 25, n ≤ reachBytes) (hok : Value.okWide Tryz.prog W .any base 25 v) :
  ∃ l : LLine, VRel (cW W) (lineA l) v ∧ okLine l := by
 obtain ⟨fuel, h⟩ := h
 simp only [Value.okWide, Tryz.underlying25] at hok
 obtain ⟨cs, rfl, hsz, ts, hts, _, hrow⟩ := hok
 have hc : Tryz.prog.cellsOf 25 = 5 := by kernel_rfl
 rw [hc] at hsz
 obtain ⟨c0, c1, c2, c3, c4, rfl⟩ : ∃ c0 c1 c2 c3 c4, cs = #[c0, c1, c2, c3, c4] := by
  obtain ⟨l⟩ := cs
  match l, hsz with
  | [c0, c1, c2, c3, c4], _ => exact ⟨c0, c1, c2, c3, c4, rfl⟩
 have hts' : Go.Program.cellTypes Tryz.prog Tryz.prog.depth 25 = some [22, 3, 3, 3, 23] := by kernel_rfl
 rw [hts'] at hts
 cases hts
 have k0 : Cell.okWide Tryz.prog W .any base 22 c0 := by
  obtain ⟨u, e, hu⟩ := hrow 0 c0 rfl
  cases e; exact hu
 have k4 : Cell.okWide Tryz.prog W .any base 23 c4 := by
  obtain ⟨u, e, hu⟩ := hrow 4 c4 rfl
  cases e; exact hu
 obtain ⟨xs, n, _, hd, hl, hlen, hf⟩ := DataW.trod_struct Tryz.underlying25 h
 have hc3 : Tryz.prog.cellsOf 3 = 1 := by kernel_rfl
 have hc22 : Tryz.prog.cellsOf 22 = 1 := by kernel_rfl
 have hc23 : Tryz.prog.cellsOf 23 = 1 := by kernel_rfl
 match xs, hlen with
 | [y0, y1, y2, y3, y4], _ =>
  have h0 : DataW.trod enc Tryz.prog W 0 (fun _ => true) true n 22 (([c0, c1, c2, c3, c4].drop 0).take (Tryz.prog.cellsOf 22)) = some y0 := hf 0 _ rfl
  have h1 : DataW.trod enc Tryz.prog W 0 (fun _ => true) true n 3 (([c0, c1, c2, c3, c4].drop 1).take (Tryz.prog.cellsOf 3)) = some y1 := hf 1 _ rfl
  have h2 : DataW.trod enc Tryz.prog W 0 (fun _ => true) true n 3 (([c0, c1, c2, c3, c4].drop 2).take (Tryz.prog.cellsOf 3)) = some y2 := hf 2 _ rfl
  have h3 : DataW.trod enc Tryz.prog W 0 (fun _ => true) true n 3 (([c0, c1, c2, c3, c4].drop 3).take (Tryz.prog.cellsOf 3)) = some y3 := hf 3 _ rfl
  have h4 : DataW.trod enc Tryz.prog W 0 (fun _ => true) true n 23 (([c0, c1, c2, c3, c4].drop 4).take (Tryz.prog.cellsOf 23)) = some y4 := hf 4 _ rfl
  rw [hc3] at h1 h2 h3
  rw [hc22] at h0
  rw [hc23] at h4
  cases hd
  have hw' : ∀ (j : Nat) (t : TypeId) (d : DataW H), [22, 3, 3, 3, 23][j]? = some t → [y0.1, y1.1, y2.1, y3.1, y4.1][j]? = some d → ∀ n ∈ d.weights Tryz.prog t, n ≤ reachBytes := fun j t d ht hd n hn => by
   refine hw n ?_
   simp only [DataW.weights, Tryz.underlying25]
   exact DataW.weights_mem_each (ts := [22, 3, 3, 3, 23]) ht hd n hn
  obtain ⟨g, hg, og⟩ := av_ints h0 (hw' 0 _ _ rfl rfl) k0
  obtain ⟨p, rfl, _⟩ := av_int h1
  obtain ⟨q, rfl, _⟩ := av_int h2
  obtain ⟨r, rfl, _⟩ := av_int h3
  obtain ⟨cn, hcn, oc⟩ := av_cnts h4 (hw' 4 _ _ rfl rfl) k4
  refine ⟨⟨g, p, q, r, cn⟩, VRel.mk_agg ?_, og, oc⟩
  exact LRel.cons hg (LRel.cons (.int _ _) (LRel.cons (.int _ _) (LRel.cons (.int _ _) (LRel.cons hcn (LRel.nil _)))))
end Go.Av.Fx
end
section
namespace Go.Proofs.YtlagjjpbknpdkaaGreatDoor
open Go Go.Av Go.ChangeShapes Go.WideShapes Go.ChangeAt Go.RowKit
set_option maxRecDepth 100000
theorem own : ownKnob Tryz.prog.godebug = none := by kernel_rfl
theorem laidOut : laidOutB Tryz.prog = true := by kernel_rfl
def tabs : List (String × DataW Unit) := [("math/bits.deBruijn32tab", Rows.laid_math_bits_deBruijn32tab), ("math/bits.deBruijn64tab", Rows.laid_math_bits_deBruijn64tab), ("internal/strconv.uint64pow10", Rows.laid_internal_strconv_uint64pow10), ("unicode/utf8.acceptRanges", Rows.laid_unicode_utf8_acceptRanges), ("unicode/utf8.first", Rows.laid_unicode_utf8_first)]
theorem pow_data : (Rows.laid_internal_strconv_uint64pow10 : DataW Unit) = Lib.tabData .u64 Lib.pow10Tab := by kernel_rfl
theorem pow_name : Tryz.prog.globalNamed "internal/strconv.uint64pow10" = some 0 := by kernel_rfl
theorem pow_type : (Tryz.prog.globals[0]?).map (·.type) = some 232 := by kernel_rfl
theorem tab_ok {W : World} (h : laidMetH Tryz.prog tabs W) : Go.Av.Fx.TabOk W := by
 rw [MakeChecks.laidMetH_plain _ _ _ (by kernel_rfl)] at h
 obtain ⟨ps, ⟨_, _, _, _, _, _, _, _, _, _, ⟨_, _, _, _, _, _, _, _, _, _, ⟨g, t, cs, fuel, p, q, hg, ht, hv, hd, _, _⟩, _⟩, _⟩, _, _⟩ := h
 obtain rfl := Option.some.inj (pow_name.symm.trans hg)
 obtain rfl := Option.some.inj (pow_type.symm.trans ht)
 rw [pow_data] at hd
 have hcs := Lib.cells_of_tab (P := Tryz.prog) (t := 232) (e := 215) (n := 20) (k := .u64) (by kernel_rfl) (by kernel_rfl) (by kernel_rfl) (by kernel_rfl) hd
 have hlen : Lib.pow10Tab.length = 20 := by simp [Lib.pow10Tab]
 have hTab : Lib.TabIs Tryz.prog W "internal/strconv.uint64pow10" .u64 Lib.pow10Tab := by
  unfold Lib.TabIs
  rw [hv, ← hcs]
 refine ⟨fun i hi => ?_, ?_⟩
 ·have := hTab.cell pow_name i (by rw [hlen]; exact hi)
  rw [show (Lib.pow10Tab.getD i 0 : Int) = ((10 ^ i : Nat) : Int) by
   unfold Lib.pow10Tab
   rw [List.getD_eq_getElem?_getD, List.getElem?_map, List.getElem?_range hi]; rfl] at this
  exact this
 ·unfold World.var? at hv
  rw [pow_name, Option.bind_some] at hv
  split at hv
  ·rename_i cs' t' fr e
   cases hv
   refine ⟨t', ?_⟩
   unfold World.shape?
   show (match W.heap[0]? with
    | some (.cells c elem _) => some (elem, c.size)
    | _ => none) = _
   rw [e]
   have : cs.size = 20 := by
    have := congrArg List.length hcs
    simpa [hlen] using this
   simp [this]
  ·cases hv
end Go.Proofs.YtlagjjpbknpdkaaGreatDoor
end
section
set_option maxRecDepth 100000
namespace Go.Av.Fx
open Go Go.Av Go.Av.Tb Go.Proofs Go.ChangeShapes Go.WideShapes Go.RowKit
theorem cells_lone {v : Value} (h : ∀ cs, v ≠ .agg cs) : v.cells.toList = [v] := by
 cases v <;> first | rfl | exact absurd rfl (h _)
theorem av_intsA {H : Type} {enc : TypeId × Value → H} {W : World} {base : Nat} {v : Value} {d : DataW H} {ps : List MemPlace} (h : DataW.Trod enc Tryz.prog W 0 (fun _ => true) true 22 v d ps) (hw : ∀ n ∈ d.weights Tryz.prog 22, n ≤ reachBytes) (hok : Value.okWide Tryz.prog W .any base 22 v) :
  ∃ l : List Int, VRel (cW W) (sl l) v ∧ okL l.length := by
 obtain ⟨fuel, h⟩ := h
 simp only [Value.okWide, Tryz.underlying22] at hok
 rw [cells_lone (fun cs e => by subst e; simp [Tryz.underlying22, Cell.okWide, Cell.ok] at hok)] at h
 exact av_ints h hw hok
end Go.Av.Fx
end
