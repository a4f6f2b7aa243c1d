/- Part 24 of the proof. -/
import Derived.Test.YtlagjjpbknpdkaaGreatDoorVh23
import Derived.Test.YtlagjjpbknpdkaaGreatDoorVh21
set_option linter.all false
set_option linter.unusedVariables false
set_option linter.unusedSimpArgs false
set_option linter.unusedSectionVars false
open Nat (reduceEqDiff reduceAdd reduceLeDiff)
section
namespace Go.Av.Fx
open Go Go.Av Go.Av.Tb Go.Proofs
theorem rin_pc (x lo hi : Int) : PC Tryz.prog 80 [.int .i64 x, .int .i64 lo, .int .i64 hi] (.pure (.bool (inB x lo hi))) := by
 refine PC.of_empty (AC.run (E_ok 15) mix Tryz.func80 m80 rfl rfl rfl (Nat.le_of_ble_eq_true rfl) ?_) rfl rfl
 unfold inB
 simp only [go_sem, reduceEqDiff, Nat.reduceBEq, reduceAdd, reduceIte, reduceCtorEq, reduceLeDiff]
 refine sg_dec (fun h => ?_) (fun h => ?_)
 ·simp only [go_sem, h, decide_true, Tryz.f80, Bool.true_and, reduceEqDiff, Nat.reduceBEq, reduceAdd, reduceIte, reduceCtorEq, reduceLeDiff]
 ·simp only [go_sem, h, decide_false, Tryz.f80, Bool.false_and, reduceEqDiff, Nat.reduceBEq, reduceAdd, reduceIte, reduceCtorEq, reduceLeDiff]
theorem rPoint_pc (l : LLine) (n : Int) : PC Tryz.prog 37 [lineA l, .int .i64 n] (.pure (.bool (inB n 0 l.gives.length))) := by
 refine PC.of_empty (AC.run (E_ok _) mix Tryz.func37 m37 rfl rfl rfl (Nat.le_of_ble_eq_true rfl) ?_) (by simp [bndL, AV.bnd]) rfl
 simp only [go_sem, boxA, builtinA, reduceEqDiff, Nat.reduceBEq, reduceAdd, reduceIte, reduceCtorEq, reduceLeDiff]
 refine cp n80 (rin_pc _ _ _) (SubL.refl _) ?_
 simp only [go_sem, Tryz.f37, reduceEqDiff, Nat.reduceBEq, reduceAdd, reduceIte, reduceCtorEq, reduceLeDiff]
def cntR (l : LLine) (c : Cnt) : Bool := inB c.point 0 l.gives.length && inB c.low 0 400 && inB c.high c.low 400
theorem rCount_pc (l : LLine) (c : Cnt) : PC Tryz.prog 81 [lineA l, .agg (cntC c)] (.pure (.bool (cntR l c))) := by
 refine PC.of_empty (AC.run (E_ok _) mix Tryz.func81 m81 rfl rfl rfl (Nat.le_of_ble_eq_true rfl) ?_) (by simp [bndL, AV.bnd]) rfl
 unfold cntR
 simp only [go_sem, boxA, reduceEqDiff, Nat.reduceBEq, reduceAdd, reduceIte, reduceCtorEq, reduceLeDiff]
 refine cp n37 (rPoint_pc l _) (SubL.refl _) ?_
 cases h1 : inB c.point 0 l.gives.length
 ·simp only [go_sem, Tryz.f81, Bool.false_and, reduceEqDiff, Nat.reduceBEq, reduceAdd, reduceIte, reduceCtorEq, reduceLeDiff]
 ·simp only [go_sem, reduceEqDiff, Nat.reduceBEq, reduceAdd, reduceIte, reduceCtorEq, reduceLeDiff]
  refine cp n80 (rin_pc _ _ _) (SubL.refl _) ?_
  cases h2 : inB c.low 0 400
  ·simp only [go_sem, Tryz.f81, Bool.false_and, Bool.true_and, reduceEqDiff, Nat.reduceBEq, reduceAdd, reduceIte, reduceCtorEq, reduceLeDiff]
  ·simp only [go_sem, reduceEqDiff, Nat.reduceBEq, reduceAdd, reduceIte, reduceCtorEq, reduceLeDiff]
   refine cp n80 (rin_pc _ _ _) (SubL.refl _) ?_
   simp only [go_sem, Tryz.f81, Bool.true_and, reduceEqDiff, Nat.reduceBEq, reduceAdd, reduceIte, reduceCtorEq, reduceLeDiff]
theorem list_ext {α : Type} {a b : List α} (hl : a.length = b.length) (h : ∀ i (h1 : i < a.length) (h2 : i < b.length), a[i] = b[i]) : a = b :=
 List.ext_getElem hl fun i h1 h2 => h i h1 h2
theorem Same_pc (a b : List Int) (ha : okL a.length) (hb : okL b.length) : PC Tryz.prog 50 [sl a, sl b] (.pure (.bool (decide (a = b)))) := by
 refine PC.of_empty (AC.run (E_ok _) mix Tryz.func50 m50 rfl rfl rfl (Nat.le_of_ble_eq_true rfl) ?_) (by simp [bndL, AV.bnd]) rfl
 by_cases hl : a.length = b.length
 ·have hn : ¬ ((a.length : Int) ≠ b.length) := fun h => h (by omega)
  simp only [go_sem, builtinA, hn, decide_false, reduceEqDiff, Nat.reduceBEq, reduceAdd, reduceIte, reduceCtorEq, reduceLeDiff]
  refine wc_forP a.length (fun k => ∀ i (h1 : i < k) (h2 : i < a.length) (h3 : i < b.length), a[i] = b[i]) (fun k => [(0, sl a), (1, sl b), (5, .int .i64 k)]) (fun _ => St.empty) (fun i hi => absurd hi (Nat.not_lt_zero _)) rfl rfl ?_
  intro k hk hP I hI
  by_cases h : k < a.length
  ·have h' : (k : Int) < a.length := by omega
   have h2 : 0 ≤ (k : Int) ∧ (k : Int) < a.length := by omega
   have h2' : 0 ≤ (k : Int) ∧ (k : Int) < b.length := by omega
   have hkb : k < b.length := by omega
   have h3 : a[k]? = some a[k] := List.getElem?_eq_getElem h
   have h3' : b[k]? = some b[k] := List.getElem?_eq_getElem hkb
   have h4 : IntKind.i64.wrap ((k : Int) + 1) = (k + 1 : Nat) := wrap64 (by omega)
   by_cases hb : a[k] = b[k]
   ·have hq : ¬ a[k] ≠ b[k] := fun h => h hb
    simp only [go_sem, l50_0, builtinA, h', decide_true, h2, h2', ints_get, h3, h3', hq, decide_false, h4, reduceEqDiff, Nat.reduceBEq, reduceAdd, reduceIte, reduceCtorEq, reduceLeDiff]
    refine hI h fun i hi hi2 hi3 => ?_
    by_cases e : i = k
    ·subst e; exact hb
    ·exact hP i (by omega) hi2 hi3
   ·have hd : decide (a[k] ≠ b[k]) = true := decide_eq_true hb
    simp only [go_sem, l50_0, builtinA, h', decide_true, h2, h2', ints_get, h3, h3', hd, Tryz.f50, reduceEqDiff, Nat.reduceBEq, reduceAdd, reduceIte, reduceCtorEq, reduceLeDiff]
    rw [decide_eq_false (fun e => hb (by subst e; rfl))]
  ·have h' : ¬ (k : Int) < a.length := by omega
   simp only [go_sem, l50_0, builtinA, h', decide_false, Tryz.f50, reduceEqDiff, Nat.reduceBEq, reduceAdd, reduceIte, reduceCtorEq, reduceLeDiff]
   rw [decide_eq_true (list_ext hl fun i h1 h2 => hP i (by omega) h1 h2)]
 ·have hn : ((a.length : Int) ≠ b.length) := fun h => hl (by omega)
  have hd := decide_eq_true hn
  simp only [go_sem, builtinA, hd, Tryz.f50, reduceEqDiff, Nat.reduceBEq, reduceAdd, reduceIte, reduceCtorEq, reduceLeDiff]
  rw [decide_eq_false (fun e => hl (by rw [e]))]
theorem SameWords_pc (a b : List Int) (ha : okL a.length) (hb : okL b.length) : PC Tryz.prog 24 [sl a, sl b] (.pure (.bool (decide (a = b)))) := by
 refine PC.of_empty (AC.run (E_ok _) mix Tryz.func24 m24 rfl rfl rfl (Nat.le_of_ble_eq_true rfl) ?_) (by simp [bndL, AV.bnd]) rfl
 by_cases hl : a.length = b.length
 ·have hn : ¬ ((a.length : Int) ≠ b.length) := fun h => h (by omega)
  simp only [go_sem, builtinA, hn, decide_false, reduceEqDiff, Nat.reduceBEq, reduceAdd, reduceIte, reduceCtorEq, reduceLeDiff]
  refine wc_forP a.length (fun k => ∀ i (h1 : i < k) (h2 : i < a.length) (h3 : i < b.length), a[i] = b[i]) (fun k => [(0, sl a), (1, sl b), (5, .int .i64 k)]) (fun _ => St.empty) (fun i hi => absurd hi (Nat.not_lt_zero _)) rfl rfl ?_
  intro k hk hP I hI
  by_cases h : k < a.length
  ·have h' : (k : Int) < a.length := by omega
   have h2 : 0 ≤ (k : Int) ∧ (k : Int) < a.length := by omega
   have h2' : 0 ≤ (k : Int) ∧ (k : Int) < b.length := by omega
   have hkb : k < b.length := by omega
   have h3 : a[k]? = some a[k] := List.getElem?_eq_getElem h
   have h3' : b[k]? = some b[k] := List.getElem?_eq_getElem hkb
   have h4 : IntKind.i64.wrap ((k : Int) + 1) = (k + 1 : Nat) := wrap64 (by omega)
   by_cases hb : a[k] = b[k]
   ·have hq : ¬ a[k] ≠ b[k] := fun h => h hb
    simp only [go_sem, l24_0, builtinA, h', decide_true, h2, h2', ints_get, h3, h3', hq, decide_false, h4, reduceEqDiff, Nat.reduceBEq, reduceAdd, reduceIte, reduceCtorEq, reduceLeDiff]
    refine hI h fun i hi hi2 hi3 => ?_
    by_cases e : i = k
    ·subst e; exact hb
    ·exact hP i (by omega) hi2 hi3
   ·have hd : decide (a[k] ≠ b[k]) = true := decide_eq_true hb
    simp only [go_sem, l24_0, builtinA, h', decide_true, h2, h2', ints_get, h3, h3', hd, Tryz.f24, reduceEqDiff, Nat.reduceBEq, reduceAdd, reduceIte, reduceCtorEq, reduceLeDiff]
    rw [decide_eq_false (fun e => hb (by subst e; rfl))]
  ·have h' : ¬ (k : Int) < a.length := by omega
   simp only [go_sem, l24_0, builtinA, h', decide_false, Tryz.f24, reduceEqDiff, Nat.reduceBEq, reduceAdd, reduceIte, reduceCtorEq, reduceLeDiff]
   rw [decide_eq_true (list_ext hl fun i h1 h2 => hP i (by omega) h1 h2)]
 ·have hn : ((a.length : Int) ≠ b.length) := fun h => hl (by omega)
  have hd := decide_eq_true hn
  simp only [go_sem, builtinA, hd, Tryz.f24, reduceEqDiff, Nat.reduceBEq, reduceAdd, reduceIte, reduceCtorEq, reduceLeDiff]
  rw [decide_eq_false (fun e => hl (by rw [e]))]
def sls (L : List (List Int)) : List AV := L.map sl
abbrev sll (L : List (List Int)) : AV := .slice (sls L) L.length .unk
@[simp] theorem sls_get (L : List (List Int)) (i : Nat) : (sls L)[i]? = (L[i]?).map sl := by simp [sls]
@[simp] theorem sls_len (L : List (List Int)) : (sls L).length = L.length := by simp [sls]
@[simp] theorem sls_bnd (n k : Nat) (L : List (List Int)) : bndL n k (sls L) = true := bndL_map _ (fun _ => by simp [AV.bnd]) _
theorem SameSets_pc (a b : List (List Int)) (ha : okL a.length) (hb : okL b.length) (hA : ∀ x ∈ a, okL x.length) (hB : ∀ x ∈ b, okL x.length) : PC Tryz.prog 26 [sll a, sll b] (.pure (.bool (decide (a = b)))) := by
 refine PC.of_empty (AC.run (E_ok _) mix Tryz.func26 m26 rfl rfl rfl (Nat.le_of_ble_eq_true rfl) ?_) (by simp [bndL, AV.bnd]) rfl
 by_cases hl : a.length = b.length
 ·have hn : ¬ ((a.length : Int) ≠ b.length) := fun h => h (by omega)
  simp only [go_sem, builtinA, hn, decide_false, reduceEqDiff, Nat.reduceBEq, reduceAdd, reduceIte, reduceCtorEq, reduceLeDiff]
  refine wc_forP a.length (fun k => ∀ i (h1 : i < k) (h2 : i < a.length) (h3 : i < b.length), a[i] = b[i]) (fun k => [(0, sll a), (1, sll b), (5, .int .i64 k)]) (fun _ => St.empty) (fun i hi => absurd hi (Nat.not_lt_zero _)) rfl rfl ?_
  intro k hk hP I hI
  by_cases h : k < a.length
  ·have h' : (k : Int) < a.length := by omega
   have h2 : 0 ≤ (k : Int) ∧ (k : Int) < a.length := by omega
   have h2' : 0 ≤ (k : Int) ∧ (k : Int) < b.length := by omega
   have hkb : k < b.length := by omega
   have h3 : a[k]? = some a[k] := List.getElem?_eq_getElem h
   have h3' : b[k]? = some b[k] := List.getElem?_eq_getElem hkb
   have h4 : IntKind.i64.wrap ((k : Int) + 1) = (k + 1 : Nat) := wrap64 (by omega)
   have hS := Same_pc a[k] b[k] (hA _ (List.getElem_mem h)) (hB _ (List.getElem_mem hkb))
   simp only [go_sem, l26_0, builtinA, h', decide_true, h2, h2', sls_get, h3, h3', Option.map_some, reduceEqDiff, Nat.reduceBEq, reduceAdd, reduceIte, reduceCtorEq, reduceLeDiff]
   refine cp n50 hS (SubL.refl _) ?_
   by_cases hb : a[k] = b[k]
   ·rw [decide_eq_true hb]
    simp only [go_sem, un_not, Bool.not_true, h4, reduceEqDiff, Nat.reduceBEq, reduceAdd, reduceIte, reduceCtorEq, reduceLeDiff]
    refine hI h fun i hi hi2 hi3 => ?_
    by_cases e : i = k
    ·subst e; exact hb
    ·exact hP i (by omega) hi2 hi3
   ·rw [decide_eq_false hb]
    simp only [go_sem, un_not, Bool.not_false, Tryz.f26, reduceEqDiff, Nat.reduceBEq, reduceAdd, reduceIte, reduceCtorEq, reduceLeDiff]
    rw [decide_eq_false (fun e => hb (by subst e; rfl))]
  ·have h' : ¬ (k : Int) < a.length := by omega
   simp only [go_sem, l26_0, builtinA, h', decide_false, Tryz.f26, reduceEqDiff, Nat.reduceBEq, reduceAdd, reduceIte, reduceCtorEq, reduceLeDiff]
   rw [decide_eq_true (list_ext hl fun i h1 h2 => hP i (by omega) h1 h2)]
 ·have hn : ((a.length : Int) ≠ b.length) := fun h => hl (by omega)
  have hd := decide_eq_true hn
  simp only [go_sem, builtinA, hd, Tryz.f26, reduceEqDiff, Nat.reduceBEq, reduceAdd, reduceIte, reduceCtorEq, reduceLeDiff]
  rw [decide_eq_false (fun e => hl (by rw [e]))]
def lineR (l : LLine) : Bool := l.gives.all (fun g => inB g 0 60) && l.counts.all (cntR l) && (inB l.gives.length 1 5 && inB l.least 1 60 && inB l.most l.least 60 && inB l.taps 0 2 && decide ((l.counts.length : Int) ≤ 8))
theorem lineR_iff {l : LLine} : lineR l = true ↔ Ln l := by
 unfold lineR cntR
 simp only [Bool.and_eq_true, List.all_eq_true, inB_iff, decide_eq_true_eq]
 constructor
 ·rintro ⟨⟨h1, h2⟩, ⟨⟨⟨h3, h4⟩, h5⟩, h6⟩, h7⟩
  exact ⟨by omega, by omega, by omega, by omega, by omega, h1, fun c hc => by have := h2 c hc; omega⟩
 ·intro h
  have h1 := h.pts; have h2 := h.cts; have h3 := h.least; have h4 := h.most; have h5 := h.taps
  exact ⟨⟨h.gives, fun c hc => by have := h.counts c hc; omega⟩, ⟨⟨⟨by omega, by omega⟩, by omega⟩, by omega⟩, by omega⟩
theorem lineR_eq (l : LLine) : lineR l = isLineB l := by
 rw [Bool.eq_iff_iff, lineR_iff, isLine_iff]
theorem rLine_pc (l : LLine) (ok : okLine l) : PC Tryz.prog 28 [lineA l] (.pure (.bool (isLineB l))) := by
 rw [← lineR_eq]
 refine PC.of_empty (AC.run (E_ok _) mix Tryz.func28 m28 rfl rfl rfl (Nat.le_of_ble_eq_true rfl) ?_) (by simp [bndL, AV.bnd]) rfl
 obtain ⟨ok1, ok2⟩ := ok
 unfold okL at ok1 ok2
 simp only [go_sem, boxA, builtinA, reduceEqDiff, Nat.reduceBEq, reduceAdd, reduceIte, reduceCtorEq, reduceLeDiff]
 refine wc_forP l.gives.length (fun k => ∀ i (h1 : i < k) (h2 : i < l.gives.length), inB l.gives[i] 0 60 = true) (fun k => [(1, .ref 0 0), (3, .int .i64 k)]) (fun _ => ⟨[some (.cells (lineC l))], 0, []⟩) (fun i hi => absurd hi (Nat.not_lt_zero _)) rfl rfl ?_
 intro k hk hP I hI
 by_cases h : k < l.gives.length
 ·have h' : (k : Int) < l.gives.length := by omega
  have h2 : 0 ≤ (k : Int) ∧ (k : Int) < l.gives.length := by omega
  have h3 : l.gives[k]? = some l.gives[k] := List.getElem?_eq_getElem h
  have h4 : IntKind.i64.wrap ((k : Int) + 1) = (k + 1 : Nat) := wrap64 (by omega)
  simp only [go_sem, l28_0, builtinA, h', decide_true, h2, ints_get, h3, reduceEqDiff, Nat.reduceBEq, reduceAdd, reduceIte, reduceCtorEq, reduceLeDiff]
  refine cp n80 (rin_pc _ _ _) (SubL.refl _) ?_
  cases hb : inB l.gives[k] 0 60
  ·simp only [go_sem, un_not, Bool.not_false, Tryz.f28, reduceEqDiff, Nat.reduceBEq, reduceAdd, reduceIte, reduceCtorEq, reduceLeDiff]
   have : l.gives.all (fun g => inB g 0 60) = false := by
    rw [List.all_eq_false]; exact ⟨_, List.getElem_mem h, by rw [hb]; decide⟩
   unfold lineR; rw [this]; rfl
  ·simp only [go_sem, un_not, Bool.not_true, h4, reduceEqDiff, Nat.reduceBEq, reduceAdd, reduceIte, reduceCtorEq, reduceLeDiff]
   refine hI h fun i hi hi2 => ?_
   by_cases e : i = k
   ·subst e; exact hb
   ·exact hP i (by omega) hi2
 have h' : ¬ (k : Int) < l.gives.length := by omega
 have e : k = l.gives.length := by omega
 subst e
 have hall : l.gives.all (fun g => inB g 0 60) = true := by
  rw [List.all_eq_true]; intro g hg
  obtain ⟨i, hi, rfl⟩ := List.getElem_of_mem hg
  exact hP i hi hi
 clear hI hP h hk
 simp only [go_sem, l28_0, builtinA, h', decide_false, reduceEqDiff, Nat.reduceBEq, reduceAdd, reduceIte, reduceCtorEq, reduceLeDiff]
 refine wc_forP l.counts.length (fun k => ∀ i (h1 : i < k) (h2 : i < l.counts.length), cntR l l.counts[i] = true) (fun k => [(1, .ref 0 0), (4, .int .i64 k)]) (fun _ => ⟨[some (.cells (lineC l))], 0, []⟩) (fun i hi => absurd hi (Nat.not_lt_zero _)) rfl rfl ?_
 intro k hk hP I hI
 by_cases h : k < l.counts.length
 ·have h' : (k : Int) < l.counts.length := by omega
  have h2 : 0 ≤ (k : Int) ∧ (k : Int) < l.counts.length := by omega
  have h3 : k * 3 + 3 ≤ (cnts l.counts).length := by rw [cnts_len]; omega
  have h5 := cnts_at l.counts k h
  have h4 : IntKind.i64.wrap ((k : Int) + 1) = (k + 1 : Nat) := wrap64 (by omega)
  simp only [go_sem, l28_1, builtinA, h', decide_true, h2, h3, h5, reduceEqDiff, Nat.reduceBEq, reduceAdd, reduceIte, reduceCtorEq, reduceLeDiff]
  refine cp n81 (rCount_pc l l.counts[k]) (SubL.refl _) ?_
  cases hb : cntR l l.counts[k]
  ·simp only [go_sem, un_not, Bool.not_false, Tryz.f28, reduceEqDiff, Nat.reduceBEq, reduceAdd, reduceIte, reduceCtorEq, reduceLeDiff]
   have : l.counts.all (cntR l) = false := by
    rw [List.all_eq_false]; exact ⟨_, List.getElem_mem h, by rw [hb]; decide⟩
   unfold lineR; rw [hall, this]; rfl
  ·simp only [go_sem, un_not, Bool.not_true, h4, reduceEqDiff, Nat.reduceBEq, reduceAdd, reduceIte, reduceCtorEq, reduceLeDiff]
   refine hI h fun i hi hi2 => ?_
   by_cases e : i = k
   ·subst e; exact hb
   ·exact hP i (by omega) hi2
 have h' : ¬ (k : Int) < l.counts.length := by omega
 have e : k = l.counts.length := by omega
 subst e
 have hall2 : l.counts.all (cntR l) = true := by
  rw [List.all_eq_true]; intro g hg
  obtain ⟨i, hi, rfl⟩ := List.getElem_of_mem hg
  exact hP i hi hi
 clear hI hP h hk
 unfold lineR
 rw [hall, hall2]
 simp only [go_sem, l28_1, builtinA, h', decide_false, reduceEqDiff, Nat.reduceBEq, reduceAdd, reduceIte, reduceCtorEq, reduceLeDiff]
 refine cp n80 (rin_pc _ _ _) (SubL.refl _) ?_
 cases h1 : inB l.gives.length 1 5
 ·simp only [go_sem, Tryz.f28, Bool.false_and, Bool.true_and, reduceEqDiff, Nat.reduceBEq, reduceAdd, reduceIte, reduceCtorEq, reduceLeDiff]
 simp only [go_sem, reduceEqDiff, Nat.reduceBEq, reduceAdd, reduceIte, reduceCtorEq, reduceLeDiff]
 refine cp n80 (rin_pc _ _ _) (SubL.refl _) ?_
 cases h2 : inB l.least 1 60
 ·simp only [go_sem, Tryz.f28, Bool.false_and, Bool.true_and, reduceEqDiff, Nat.reduceBEq, reduceAdd, reduceIte, reduceCtorEq, reduceLeDiff]
 simp only [go_sem, reduceEqDiff, Nat.reduceBEq, reduceAdd, reduceIte, reduceCtorEq, reduceLeDiff]
 refine cp n80 (rin_pc _ _ _) (SubL.refl _) ?_
 cases h3 : inB l.most l.least 60
 ·simp only [go_sem, Tryz.f28, Bool.false_and, Bool.true_and, reduceEqDiff, Nat.reduceBEq, reduceAdd, reduceIte, reduceCtorEq, reduceLeDiff]
 simp only [go_sem, reduceEqDiff, Nat.reduceBEq, reduceAdd, reduceIte, reduceCtorEq, reduceLeDiff]
 refine cp n80 (rin_pc _ _ _) (SubL.refl _) ?_
 cases h4 : inB l.taps 0 2
 ·simp only [go_sem, Tryz.f28, Bool.false_and, Bool.true_and, reduceEqDiff, Nat.reduceBEq, reduceAdd, reduceIte, reduceCtorEq, reduceLeDiff]
 simp only [go_sem, builtinA, Tryz.f28, Bool.true_and, reduceEqDiff, Nat.reduceBEq, reduceAdd, reduceIte, reduceCtorEq, reduceLeDiff]
end Go.Av.Fx
end
section
namespace Go.Av.Fx
open Go Go.Av Go.Av.Tb Go.Proofs
theorem short_pc (l : LLine) : PC Tryz.prog 19 [lineA l] (.pure (.bool (decide ((l.gives.length : Int) ≤ 7) && decide ((l.counts.length : Int) ≤ 10)))) := by
 refine PC.of_empty (AC.run (E_ok _) mix Tryz.func19 m19 rfl rfl rfl (Nat.le_of_ble_eq_true rfl) ?_) (by simp [bndL, AV.bnd]) rfl
 by_cases h : (l.gives.length : Int) ≤ 7
 ·simp only [go_sem, boxA, builtinA, h, decide_true, Tryz.f19, Bool.true_and, reduceEqDiff, Nat.reduceBEq, reduceAdd, reduceIte, reduceCtorEq, reduceLeDiff]
 ·simp only [go_sem, boxA, builtinA, h, decide_false, Tryz.f19, Bool.false_and, reduceEqDiff, Nat.reduceBEq, reduceAdd, reduceIte, reduceCtorEq, reduceLeDiff]
end Go.Av.Fx
end
section
namespace Go.Av.Fx
open Go Go.Av Go.Av.Tb Go.Proofs
open Go.Fw (Sq ent Bd Mat)
@[go_sem] theorem bs32_1s (l : List AV) (n : Nat) (t : Tail) : buildSliceA T 32 1 [(0, .slice l n t)] = some (.slice [.slice l n t] 1 .exact) := rfl
theorem sr_app32 {K : AV → St → Prop} {hK : Hold K} {h : List (Option Blk)} {k n : Nat} {l : List AV} {x : AV} (hx : AV.one x = true) (h7 : n ≤ 1000000) (h9 : l.length = n)
  (next : K (.slice (l ++ [x]) (n + 1) (tailN (k + 1))) ⟨h, k + 1, toksN (k + 1)⟩) : sr K hK (appendA T ⟨h, k, toksN k⟩ 32 (.slice l n (tailN k)) (.slice [x] 1 .exact)) ⟨h, k, toksN k⟩ := by
 rw [app_gen (e := 22) (ei := ti22) (lx := [x]) (nx := 1) rfl rfl (by decide) (by simp [heldA, ti22]) (by decide) (by simp [hx]) (by show (n + 1) * 24 ≤ _; omega) (by omega) (by simpa [ti22] using h9)]
 cases k with
 | zero => rw [tailN, sr_tok]; exact next
 | succ k =>
  rw [tailN, sr_tok_some]
  refine ⟨List.mem_cons_self, ?_⟩
  have : killTok (toksN (k + 1)) (some k) = [] := by simp [killTok, toksN]
  show K (.slice (l ++ [x]) (n + 1) (.tok (k + 1))) ⟨h, k + 1 + 1, (k + 1) :: killTok (toksN (k + 1)) (some k)⟩
  rw [this]; exact next
def R2 (m i j : Nat) : List (List Int) := ones m ++ ((List.range i).flatMap (twosAt m) ++ (List.range j).map fun (j : Nat) => [(i : Int), ((i + 1 + j : Nat) : Int)])
theorem R2_succ (m i j : Nat) : R2 m i (j + 1) = R2 m i j ++ [[(i : Int), ((i + 1 + j : Nat) : Int)]] := by simp [R2, List.range_succ]
theorem R2_next (m i : Nat) : R2 m (i + 1) 0 = R2 m i (m - (i + 1)) := by simp [R2, List.range_succ, twosAt]
theorem R2_zero (m : Nat) : R2 m 0 0 = ones m := by simp [R2]
theorem R2_all (m : Nat) : R2 m m 0 = ones m ++ twos m := by simp [R2, twos]
theorem ones_succ (k : Nat) : ones (k + 1) = ones k ++ [[(k : Int)]] := by simp [ones, List.range_succ]
theorem map_frz {α : Type} (h : List (Option Blk)) (f g : α → AV) (hf : ∀ a, Frz h (f a) (g a)) (L : List α) : ∀ (j : Nat) (x y : AV), (L.map f)[j]? = some x → (L.map g)[j]? = some y → Frz h x y := by
 intro j x y hx hy
 rw [List.getElem?_map] at hx hy
 cases e : L[j]? with
 | none => rw [e] at hx; cases hx
 | some a => rw [e] at hx hy; cases hx; cases hy; exact hf a
theorem rall_pc (l : LLine) (hl : l.gives.length ≤ 1000) : PC Tryz.prog 78 [lineA l] (.pure (sll (setsL l.gives.length))) := by
 refine PC.of_frz (AC.run (E_ok _) mix Tryz.func78 m78 rfl rfl rfl (Nat.le_of_ble_eq_true rfl) ?_) (by simp [bndL, AV.bnd]) (by simp [AV.bnd])
 simp only [go_sem, boxA, reduceEqDiff, Nat.reduceBEq, reduceAdd, reduceIte, reduceCtorEq, reduceLeDiff]
 refine wc_for l.gives.length (fun k => [(1, .ref 0 0), (3, .slice (([] :: ones k).map setA) ((ones k).length + 1) (tailN (ones k).length)), (4, .int .i64 k)]) (fun k => ⟨[some (.cells (lineC l))], (ones k).length, toksN (ones k).length⟩) rfl rfl ?_
 intro k hk I hI
 by_cases h' : k < l.gives.length
 ·have h1 : (k : Int) < l.gives.length := by omega
  have h4 : IntKind.i64.wrap ((k : Int) + 1) = (k + 1 : Nat) := wrap64 (by omega)
  simp only [go_sem, l78_0, builtinA, h1, decide_true, reduceEqDiff, Nat.reduceBEq, reduceAdd, reduceIte, reduceCtorEq, reduceLeDiff]
  refine sr_app32 (x := .slice [.int .i64 k] 1 .exact) rfl (by simp [ones]; omega) (by simp) ?_
  simp only [go_sem, h4, reduceEqDiff, Nat.reduceBEq, reduceAdd, reduceIte, reduceCtorEq, reduceLeDiff]
  have := hI h'
  rw [ones_succ, List.length_append] at this
  simpa [setA, ints] using this
 have h1 : ¬ (k : Int) < l.gives.length := by omega
 have e : k = l.gives.length := by omega
 subst e
 clear hI hk h'
 simp only [go_sem, l78_0, builtinA, h1, decide_false, reduceEqDiff, Nat.reduceBEq, reduceAdd, reduceIte, reduceCtorEq, reduceLeDiff]
 have hones : (ones l.gives.length).length ≤ 1000 := by simp [ones]; omega
 rw [← R2_zero]
 refine wc_for l.gives.length (fun i => [(1, .ref 0 0), (3, .slice (([] :: R2 l.gives.length i 0).map setA) ((R2 l.gives.length i 0).length + 1) (tailN (R2 l.gives.length i 0).length)), (5, .int .i64 i)]) (fun i => ⟨[some (.cells (lineC l))], (R2 l.gives.length i 0).length, toksN (R2 l.gives.length i 0).length⟩) rfl rfl ?_
 intro i hi I hI
 have hfl : ∀ i, i ≤ l.gives.length → ((List.range i).flatMap (twosAt l.gives.length)).length ≤ 1000 * i := by
  intro i
  induction i with
  | zero => intro _; simp
  | succ i ih =>
   intro hi
   have := ih (by omega)
   rw [List.range_succ, List.flatMap_append, List.length_append]
   have e : ([i].flatMap (twosAt l.gives.length)).length = l.gives.length - (i + 1) := by simp [twosAt]
   rw [e]; omega
 by_cases h' : i < l.gives.length
 ·have h1 : (i : Int) < l.gives.length := by omega
  have h4 : IntKind.i64.wrap ((i : Int) + 1) = (i + 1 : Nat) := wrap64 (by omega)
  simp only [go_sem, l78_1, builtinA, h1, decide_true, h4, reduceEqDiff, Nat.reduceBEq, reduceAdd, reduceIte, reduceCtorEq, reduceLeDiff]
  refine wc_for (l.gives.length - (i + 1)) (fun j => [(1, .ref 0 0), (3, .slice (([] :: R2 l.gives.length i j).map setA) ((R2 l.gives.length i j).length + 1) (tailN (R2 l.gives.length i j).length)), (5, .int .i64 i), (6, .int .i64 (i + 1 + j : Nat))]) (fun j => ⟨[some (.cells (lineC l))], (R2 l.gives.length i j).length, toksN (R2 l.gives.length i j).length⟩) rfl rfl ?_
  intro j hj I2 hI2
  by_cases h'' : j < l.gives.length - (i + 1)
  ·have g1 : ((i + 1 + j : Nat) : Int) < l.gives.length := by omega
   have g4 : IntKind.i64.wrap (((i + 1 + j : Nat) : Int) + 1) = (i + 1 + (j + 1) : Nat) := by rw [wrap64 (by omega)]; omega
   simp only [go_sem, l78_2, builtinA, g1, decide_true, reduceEqDiff, Nat.reduceBEq, reduceAdd, reduceIte, reduceCtorEq, reduceLeDiff]
   refine sr_app32 (x := .slice [.int .i64 i, .int .i64 (i + 1 + j : Nat)] 2 .exact) rfl (by have := hfl i (by omega); simp only [R2, ones, List.length_append, List.length_map, List.length_range]; omega) (by simp) ?_
   simp only [go_sem, g4, reduceEqDiff, Nat.reduceBEq, reduceAdd, reduceIte, reduceCtorEq, reduceLeDiff]
   have := hI2 h''
   rw [R2_succ, List.length_append] at this
   simpa [setA, ints] using this
  ·have g1 : ¬ ((i + 1 + j : Nat) : Int) < l.gives.length := by omega
   have e : j = l.gives.length - (i + 1) := by omega
   subst e
   simp only [go_sem, l78_2, builtinA, g1, decide_false, h4, reduceEqDiff, Nat.reduceBEq, reduceAdd, reduceIte, reduceCtorEq, reduceLeDiff]
   have := hI h'
   rw [R2_next] at this
   exact this
 ·have h1 : ¬ (i : Int) < l.gives.length := by omega
  have e : i = l.gives.length := by omega
  subst e
  rw [R2_all]
  simp only [go_sem, l78_1, builtinA, h1, decide_false, Tryz.f78, reduceEqDiff, Nat.reduceBEq, reduceAdd, reduceIte, reduceCtorEq, reduceLeDiff]
  refine ⟨_, rfl, ?_⟩
  have e : (setsL l.gives.length).length = (ones l.gives.length ++ twos l.gives.length).length + 1 := by simp [setsL]
  unfold sll
  rw [e]
  exact .slice _ _ _ _ (by simp [setsL, sls]) (map_frz _ setA sl (setA_frz _) (setsL l.gives.length))
theorem setsL_sz {m : Nat} (h : m ≤ 5) : ∀ s ∈ setsL m, s.length ≤ 1000 := by
 have : ∀ m, m ≤ 5 → ∀ s ∈ setsL m, s.length ≤ 1000 := by decide
 exact this m h
theorem rSets_pc (l : LLine) (h : Lw l) : PC Tryz.prog 27 [lineA l] (.pure (sll (rSets l))) := by
 have hp := h.pts
 refine PC.of_frz (AC.run (E_ok _) mix Tryz.func27 m27 rfl rfl rfl (Nat.le_of_ble_eq_true rfl) ?_) (by simp [bndL, AV.bnd]) (by simp [AV.bnd])
 simp only [go_sem, boxA, reduceEqDiff, Nat.reduceBEq, reduceAdd, reduceIte, reduceCtorEq, reduceLeDiff]
 refine cp n78 (rall_pc l (by omega)) (SubL.refl _) ?_
 simp only [go_sem, reduceEqDiff, Nat.reduceBEq, reduceAdd, reduceIte, reduceCtorEq, reduceLeDiff]
 have hr : rSets l = (setsL l.gives.length).filter (withB l) := rfl
 rw [hr]
 have hsz := setsL_sz hp.2
 have hlen := setsL_len5 hp.2
 generalize setsL l.gives.length = A at *
 refine wc_for A.length (fun k => [(1, .ref 0 0), (3, gro (sls ((A.take k).filter (withB l)))), (4, sll A), (5, .int .i64 k)]) (fun k => ⟨[some (.cells (lineC l))], ((A.take k).filter (withB l)).length, toksN ((A.take k).filter (withB l)).length⟩) rfl rfl ?_
 intro k hk I hI
 by_cases h' : k < A.length
 ·have h1 : (k : Int) < A.length := by omega
  have h2 : 0 ≤ (k : Int) ∧ (k : Int) < A.length := by omega
  have h3 : A[k]? = some A[k] := List.getElem?_eq_getElem h'
  have h4 : IntKind.i64.wrap ((k : Int) + 1) = (k + 1 : Nat) := wrap64 (by omega)
  have hI' := hI h'
  rw [List.take_succ_eq_append_getElem h', List.filter_append] at hI'
  simp only [go_sem, l27_0, builtinA, h1, decide_true, h2, sls_get, h3, Option.map_some, reduceEqDiff, Nat.reduceBEq, reduceAdd, reduceIte, reduceCtorEq, reduceLeDiff]
  refine qp n79 (with_pc l h A[k] (hsz _ (List.getElem_mem h'))) (SubL.refl _) ?_
  have hle := List.length_filter_le (withB l) (A.take k)
  rw [List.length_take] at hle
  cases hw : withB l A[k]
  ·rw [List.filter_cons, hw] at hI'
   simp only [Bool.false_eq_true, if_false, List.filter_nil, List.append_nil] at hI'
   simp only [go_sem, withA, hw, extractA, h4, reduceEqDiff, Nat.reduceBEq, reduceAdd, reduceIte, reduceCtorEq, reduceLeDiff]
   exact hI'
  ·rw [List.filter_cons, hw] at hI'
   simp only [if_true, List.filter_nil] at hI'
   simp only [go_sem, withA, hw, extractA, builtinA, h2, sls_get, h3, Option.map_some, reduceEqDiff, Nat.reduceBEq, reduceAdd, reduceIte, reduceCtorEq, reduceLeDiff]
   refine sr_gro32 _ _ _ _ _ (by simp) (by omega) ?_
   simp only [go_sem, h4, reduceEqDiff, Nat.reduceBEq, reduceAdd, reduceIte, reduceCtorEq, reduceLeDiff]
   rw [List.length_append] at hI'
   simpa [sls] using hI'
 ·have h1 : ¬ (k : Int) < A.length := by omega
  simp only [go_sem, l27_0, builtinA, h1, decide_false, Tryz.f27, reduceEqDiff, Nat.reduceBEq, reduceAdd, reduceIte, reduceCtorEq, reduceLeDiff]
  rw [List.take_of_length_le (by omega)]
  refine ⟨_, rfl, ?_⟩
  have := gro_frz_same [some (Blk.cells (lineC l))] (sls (A.filter (withB l)))
  rw [sls_len] at this
  exact this
theorem rPoss_pc (l : LLine) (h : Lw l) : PC Tryz.prog 71 [lineA l] (.pure (.bool (rPoss l))) := by
 refine PC.of_empty (AC.run (E_ok _) mix Tryz.func71 m71 rfl rfl rfl (Nat.le_of_ble_eq_true rfl) ?_) (by simp [bndL, AV.bnd]) rfl
 simp only [go_sem, boxA, reduceEqDiff, Nat.reduceBEq, reduceAdd, reduceIte, reduceCtorEq, reduceLeDiff]
 refine cp n27 (rSets_pc l h) (SubL.refl _) ?_
 have e : decide (((rSets l).length : Int) > 0) = rPoss l := by
  unfold rPoss
  rw [Bool.eq_iff_iff, decide_eq_true_iff, decide_eq_true_iff]
  omega
 simp only [go_sem, builtinA, e, Tryz.f71, reduceEqDiff, Nat.reduceBEq, reduceAdd, reduceIte, reduceCtorEq, reduceLeDiff]
end Go.Av.Fx
end
section
namespace Go.Av.Fx
open Go Go.Av Go.Av.Tb Go.Proofs
@[go_sem] theorem bs93_b (n : Int) : buildSliceA T 93 1 [(0, .int .u8 n)] = some (.slice [.int .u8 n] 1 .exact) := rfl
theorem bstr (S : St) (n : Int) (t : Tail) : convMemA T S 93 9 (.slice [.int .u8 n] 1 t) = some (.pure (.str (strOfNums [n]))) := rfl
theorem itoa_dig {d : Nat} (h : d < 10) : strOfNums [48 + (d : Int)] = ⟨#[UInt8.ofNat (48 + d)]⟩ := by
 have : ∀ d : Nat, d < 10 → strOfNums [48 + (d : Int)] = ⟨#[UInt8.ofNat (48 + d)]⟩ := by
  intro d hd
  match d, hd with
  | 0, _ => rfl
  | 1, _ => rfl
  | 2, _ => rfl
  | 3, _ => rfl
  | 4, _ => rfl
  | 5, _ => rfl
  | 6, _ => rfl
  | 7, _ => rfl
  | 8, _ => rfl
  | 9, _ => rfl
 exact this d h
theorem ba_ext {a b : ByteArray} (h : a.data.toList = b.data.toList) : a = b := by
 cases a; cases b
 simp only [ByteArray.mk.injEq]
 exact Array.toList_inj.1 h
theorem app_list (a b : ByteArray) : (a ++ b).data.toList = a.data.toList ++ b.data.toList := by simp [ByteArray.data_append]
theorem itoaB_small {n : Int} (h0 : 0 ≤ n) (h : n < 10) : itoaB n = ⟨#[UInt8.ofNat (48 + n.toNat)]⟩ := by
 unfold itoaB Lib.itoa
 rw [if_neg (by omega), Lib.decDigits_one (by omega)]
theorem itoaB_negsmall {n : Int} (h0 : -10 < n) (h : n < 0) : itoaB n = ⟨#[45]⟩ ++ ⟨#[UInt8.ofNat (48 + (-n).toNat)]⟩ := by
 apply ba_ext
 rw [app_list]
 unfold itoaB Lib.itoa
 rw [if_pos h, Lib.decDigits_one (by omega), show n.natAbs = (-n).toNat by omega]; rfl
theorem itoaB_big {n : Int} (h : 10 ≤ n) : itoaB n = itoaB (n.tdiv 10) ++ ⟨#[UInt8.ofNat (48 + (n.tmod 10).toNat)]⟩ := by
 have d2 : n.tdiv 10 = n / 10 := Int.tdiv_eq_ediv_of_nonneg (by omega)
 have d4 : n.tmod 10 = n % 10 := Int.tmod_eq_emod_of_nonneg (by omega)
 apply ba_ext
 rw [app_list, d2, d4]
 unfold itoaB Lib.itoa
 rw [if_neg (by omega), if_neg (by omega), Lib.decDigits, dif_neg (by omega), show (n / 10).toNat = n.toNat / 10 by omega, show (n % 10).toNat = n.toNat % 10 by omega]
theorem itoaB_negbig {n : Int} (h : n ≤ -10) : itoaB n = itoaB (n.tdiv 10) ++ ⟨#[UInt8.ofNat (48 + (-(n.tmod 10)).toNat)]⟩ := by
 have e1 : n.tdiv 10 = -((-n) / 10) := by
  have := Int.neg_tdiv (-n) 10
  rw [Int.neg_neg] at this
  rw [this, Int.tdiv_eq_ediv_of_nonneg (by omega)]
 have e2 : n.tmod 10 = -((-n) % 10) := by
  have := Int.neg_tmod (-n) 10
  rw [Int.neg_neg] at this
  rw [this, Int.tmod_eq_emod_of_nonneg (by omega)]
 apply ba_ext
 rw [app_list, e1, e2, Int.neg_neg]
 unfold itoaB Lib.itoa
 rw [if_pos (by omega), if_pos (by omega), Lib.decDigits, dif_neg (by omega), show (-(-n / 10)).natAbs = n.natAbs / 10 by omega, show (-n % 10).toNat = n.natAbs % 10 by omega]
 simp
@[go_sem] theorem conv35 (n : Int) : convA T 3 5 (.int .i64 n) = some (.int .u8 (IntKind.u8.wrap n)) := rfl
@[go_sem] theorem conv939 (l : List AV) (n : Nat) (t : Tail) : convA T 93 9 (.slice l n t) = none := rfl
theorem u8w {n : Int} (h : 0 ≤ n ∧ n ≤ 255) : IntKind.u8.wrap n = n := by rw [IntKind.wrap_u8]; omega
theorem Decimal_pc : ∀ (k : Nat) (n : Int), n.natAbs ≤ k → i64 n → PC Tryz.prog 147 [.int .i64 n] (.pure (.str (itoaB n))) := by
 intro k
 induction k with
 | zero =>
  intro n hk h
  have e : n = 0 := by omega
  subst e
  refine PC.of_empty (AC.run (E_ok _) mix Tryz.func147 m147 rfl rfl rfl (Nat.le_of_ble_eq_true rfl) ?_) rfl rfl
  have g1 : ((0 : Int) > -10) := by decide
  have g2 : ¬ ((0 : Int) < 0) := by decide
  have g3 : ((0 : Int) < 10) := by decide
  have w1 : IntKind.i64.wrap 48 = 48 := by decide
  have w2 : IntKind.u8.wrap 48 = 48 := by decide
  have hs : strOfNums [48] = itoaB 0 := by
   rw [itoaB_small (by decide) (by decide)]; rfl
  simp only [go_sem, g1, g2, g3, decide_true, decide_false, w1, w2, bstr, hs, Tryz.f147, reduceEqDiff, Nat.reduceBEq, reduceAdd, reduceIte, reduceCtorEq, reduceLeDiff]
 | succ k ih =>
  intro n hk h
  refine PC.of_empty (AC.run (E_ok _) mix Tryz.func147 m147 rfl rfl rfl (Nat.le_of_ble_eq_true rfl) ?_) rfl rfl
  unfold i64 at h
  by_cases hn : n < 0
  ·by_cases g1 : n > -10
   ·obtain ⟨d, hd⟩ : ∃ d : Nat, n = -(d : Int) := ⟨(-n).toNat, by omega⟩
    have w1 : IntKind.i64.wrap (48 - n) = 48 + (d : Int) := by rw [wrap64 (by omega)]; omega
    have w2 : IntKind.u8.wrap (48 + (d : Int)) = 48 + (d : Int) := u8w (by omega)
    have hs : binA T .add 9 (.str ⟨#[45]⟩) (.str (strOfNums [48 + (d : Int)])) = some (.str (itoaB n)) := by
     rw [itoaB_negsmall g1 hn, itoa_dig (by omega), show (-n).toNat = d by omega]
     exact addS (by show 1 + 1 ≤ _; omega)
    simp only [go_sem, g1, hn, decide_true, w1, w2, bstr, hs, Tryz.f147, reduceEqDiff, Nat.reduceBEq, reduceAdd, reduceIte, reduceCtorEq, reduceLeDiff]
   ·have hb := itoaB_negbig (n := n) (by omega)
    have e1 : n.tdiv 10 = -((-n) / 10) := by
     have := Int.neg_tdiv (-n) 10
     rw [Int.neg_neg] at this
     rw [this, Int.tdiv_eq_ediv_of_nonneg (by omega)]
    have e2 : n.tmod 10 = -((-n) % 10) := by
     have := Int.neg_tmod (-n) 10
     rw [Int.neg_neg] at this
     rw [this, Int.tmod_eq_emod_of_nonneg (by omega)]
    obtain ⟨d, hd⟩ : ∃ d : Nat, -(n.tmod 10) = (d : Int) := ⟨(-(n.tmod 10)).toNat, by omega⟩
    have hd10 : d < 10 := by omega
    have q1 : intOp .quo .i64 n 10 = some (.int .i64 (n.tdiv 10)) := by
     show some (AV.int .i64 (IntKind.i64.wrap (n.tdiv 10))) = _
     rw [wrap64 (by omega)]
    have q2 : intOp .rem .i64 n 10 = some (.int .i64 (n.tmod 10)) := rfl
    have w1 : IntKind.i64.wrap (48 - n.tmod 10) = 48 + (d : Int) := by rw [wrap64 (by omega)]; omega
    have w2 : IntKind.u8.wrap (48 + (d : Int)) = 48 + (d : Int) := u8w (by omega)
    have hI : i64 (n.tdiv 10) := ⟨by omega, by omega⟩
    have hsz := itoaB_size hI
    have hs : binA T .add 9 (.str (itoaB (n.tdiv 10))) (.str (strOfNums [48 + (d : Int)])) = some (.str (itoaB n)) := by
     rw [hb, itoa_dig hd10, show (-(n.tmod 10)).toNat = d by omega]
     exact addS (by show _ + 1 ≤ _; omega)
    have hrec := ih (n.tdiv 10) (by omega) hI
    simp only [go_sem, g1, hn, decide_true, decide_false, q1, q2, reduceEqDiff, Nat.reduceBEq, reduceAdd, reduceIte, reduceCtorEq, reduceLeDiff]
    refine qp n147 hrec (SubL.refl _) ?_
    simp only [go_sem, q1, q2, w1, w2, bstr, hs, Tryz.f147, reduceEqDiff, Nat.reduceBEq, reduceAdd, reduceIte, reduceCtorEq, reduceLeDiff]
  ·have g1 : n > -10 := by omega
   by_cases g3 : n < 10
   ·obtain ⟨d, hd⟩ : ∃ d : Nat, n = (d : Int) := ⟨n.toNat, by omega⟩
    have w1 : IntKind.i64.wrap (48 + n) = 48 + (d : Int) := by rw [wrap64 (by omega)]; omega
    have w2 : IntKind.u8.wrap (48 + (d : Int)) = 48 + (d : Int) := u8w (by omega)
    have hs : strOfNums [48 + (d : Int)] = itoaB n := by
     rw [itoaB_small (by omega) g3, itoa_dig (by omega), show n.toNat = d by omega]
    simp only [go_sem, g1, hn, g3, decide_true, decide_false, w1, w2, bstr, hs, Tryz.f147, reduceEqDiff, Nat.reduceBEq, reduceAdd, reduceIte, reduceCtorEq, reduceLeDiff]
   ·have hb := itoaB_big (n := n) (by omega)
    have e1 : n.tdiv 10 = n / 10 := Int.tdiv_eq_ediv_of_nonneg (by omega)
    have e2 : n.tmod 10 = n % 10 := Int.tmod_eq_emod_of_nonneg (by omega)
    obtain ⟨d, hd⟩ : ∃ d : Nat, n.tmod 10 = (d : Int) := ⟨(n.tmod 10).toNat, by omega⟩
    have hd10 : d < 10 := by omega
    have q1 : intOp .quo .i64 n 10 = some (.int .i64 (n.tdiv 10)) := by
     show some (AV.int .i64 (IntKind.i64.wrap (n.tdiv 10))) = _
     rw [wrap64 (by omega)]
    have q2 : intOp .rem .i64 n 10 = some (.int .i64 (n.tmod 10)) := rfl
    have w1 : IntKind.i64.wrap (48 + n.tmod 10) = 48 + (d : Int) := by rw [wrap64 (by omega)]; omega
    have w2 : IntKind.u8.wrap (48 + (d : Int)) = 48 + (d : Int) := u8w (by omega)
    have hI : i64 (n.tdiv 10) := ⟨by omega, by omega⟩
    have hsz := itoaB_size hI
    have hs : binA T .add 9 (.str (itoaB (n.tdiv 10))) (.str (strOfNums [48 + (d : Int)])) = some (.str (itoaB n)) := by
     rw [hb, itoa_dig hd10, show (n.tmod 10).toNat = d by omega]
     exact addS (by show _ + 1 ≤ _; omega)
    have hrec := ih (n.tdiv 10) (by omega) hI
    simp only [go_sem, g1, hn, g3, decide_true, decide_false, q1, q2, reduceEqDiff, Nat.reduceBEq, reduceAdd, reduceIte, reduceCtorEq, reduceLeDiff]
    refine qp n147 hrec (SubL.refl _) ?_
    simp only [go_sem, q1, q2, w1, w2, bstr, hs, Tryz.f147, reduceEqDiff, Nat.reduceBEq, reduceAdd, reduceIte, reduceCtorEq, reduceLeDiff]
theorem rRow_pc (w : ByteArray) (hw : w.size ≤ 1000) (ns : List Int) (hn : ns.length ≤ 10) (h : ∀ n ∈ ns, i64 n) : PC Tryz.prog 111 [.str w, sl ns] (.pure (.str (rowN w ns))) := by
 refine PC.of_empty (AC.run (E_ok _) mix Tryz.func111 m111 rfl rfl rfl (Nat.le_of_ble_eq_true rfl) ?_) (by simp [bndL, AV.bnd]) rfl
 simp only [go_sem, reduceEqDiff, Nat.reduceBEq, reduceAdd, reduceIte, reduceCtorEq, reduceLeDiff]
 refine wc_for ns.length (fun k => [(0, .str (rowN w (ns.take k))), (1, sl ns), (5, .int .i64 k)]) (fun _ => St.empty) rfl rfl ?_
 intro k hk I hI
 by_cases h' : k < ns.length
 ·have h1 : (k : Int) < ns.length := by omega
  have h2 : 0 ≤ (k : Int) ∧ (k : Int) < ns.length := by omega
  have h3 : ns[k]? = some ns[k] := List.getElem?_eq_getElem h'
  have h4 : IntKind.i64.wrap ((k : Int) + 1) = (k + 1 : Nat) := wrap64 (by omega)
  have hm := h _ (List.getElem_mem h')
  have h5 := itoaB_size hm
  have h6 := rowN_size (ns.take k) w fun m hm => h m (List.mem_of_mem_take hm)
  have h8 : (ns.take k).length ≤ 10 := by simp; omega
  have a1 : binA T .add 9 (.str (rowN w (ns.take k))) (.str ⟨#[32]⟩) = some (.str (rowN w (ns.take k) ++ sp)) := addS (by show _ + 1 ≤ _; omega)
  have a2 : binA T .add 9 (.str (rowN w (ns.take k) ++ sp)) (.str (itoaB ns[k])) = some (.str (rowN w (ns.take k) ++ sp ++ itoaB ns[k])) := addS (by rw [ByteArray.size_append]; show _ + 1 + _ ≤ _; omega)
  simp only [go_sem, l111_0, builtinA, h1, decide_true, h2, ints_get, h3, a1, reduceEqDiff, Nat.reduceBEq, reduceAdd, reduceIte, reduceCtorEq, reduceLeDiff]
  refine cp n147 (Decimal_pc _ _ (Nat.le_refl _) hm) (SubL.refl _) ?_
  simp only [go_sem, a2, h4, reduceEqDiff, Nat.reduceBEq, reduceAdd, reduceIte, reduceCtorEq, reduceLeDiff]
  have := hI h'
  rw [rowN_take _ _ _ h', ← ByteArray.append_assoc] at this
  exact this
 ·have h1 : ¬ (k : Int) < ns.length := by omega
  have e : k = ns.length := by omega
  subst e
  simp only [go_sem, l111_0, builtinA, h1, decide_false, List.take_length, Tryz.f111, reduceEqDiff, Nat.reduceBEq, reduceAdd, reduceIte, reduceCtorEq, reduceLeDiff]
def catB (R : List ByteArray) : Nat → ByteArray
 | 0 => ByteArray.empty
 | i + 1 => catB R i ++ R.getD i ByteArray.empty ++ lf
theorem catB_size {R : List ByteArray} (h : ∀ r ∈ R, r.size ≤ 100) : ∀ i, (catB R i).size ≤ 101 * i
 | 0 => Nat.le_refl _
 | i + 1 => by
  have ih := catB_size h i
  have hs : (R.getD i ByteArray.empty).size ≤ 100 := by
   rw [List.getD_eq_getElem?_getD]
   cases e : R[i]? with
   | none => exact Nat.zero_le _
   | some r => exact h r (List.mem_of_getElem? e)
  show (catB R i ++ _ ++ lf).size ≤ _
  rw [ByteArray.size_append, ByteArray.size_append]
  show _ + _ + 1 ≤ _; omega
def sealB (R : List ByteArray) (m : Int) : ByteArray := catB R R.length ++ endB ((ck R R.length).tmod m) ++ lf
theorem rSealed_pc (R : List ByteArray) (m : Int) (hm : 0 < m ∧ m ≤ 1000) (hR : ∀ r ∈ R, r.size ≤ 100) (hN : R.length ≤ 2500) (t : Tail) : PC Tryz.prog 112 [.slice (strs R) R.length t, .int .i64 m] (.pure (.str (sealB R m))) := by
 have key : PC Tryz.prog 112 [.slice (strs R) R.length .unk, .int .i64 m] (.pure (.str (sealB R m))) := by
  refine PC.of_empty (AC.run (E_ok _) mix Tryz.func112 m112 rfl rfl rfl (Nat.le_of_ble_eq_true rfl) ?_) (by simp [bndL, AV.bnd]) rfl
  simp only [go_sem, reduceEqDiff, Nat.reduceBEq, reduceAdd, reduceIte, reduceCtorEq, reduceLeDiff]
  refine wc_for R.length (fun i => [(0, .slice (strs R) R.length .unk), (1, .int .i64 m), (5, .str (catB R i)), (6, .int .i64 (ck R i)), (7, .int .i64 i)]) (fun _ => St.empty) rfl rfl ?_
  intro i hi I hI
  by_cases h' : i < R.length
  ·have h1 : (i : Int) < R.length := by omega
   have h2 : 0 ≤ (i : Int) ∧ (i : Int) < R.length := by omega
   have h3 : R[i]? = some R[i] := List.getElem?_eq_getElem h'
   have h4 : IntKind.i64.wrap ((i : Int) + 1) = (i + 1 : Nat) := wrap64 (by omega)
   have hr := hR _ (List.getElem_mem h')
   simp only [go_sem, l112_0, builtinA, h1, decide_true, reduceEqDiff, Nat.reduceBEq, reduceAdd, reduceIte, reduceCtorEq, reduceLeDiff]
   have hck : ck R (i + 1) = ck R i + rs R[i] R[i].size * (i + 1 : Nat) := by
    show ck R i + rs (R.getD i _) (R.getD i _).size * _ = _
    rw [List.getD_eq_getElem?_getD, h3]; rfl
   have hcat : catB R (i + 1) = catB R i ++ R[i] ++ lf := by
    show catB R i ++ R.getD i _ ++ lf = _
    rw [List.getD_eq_getElem?_getD, h3]; rfl
   have hb := ck_bd hR i (by omega)
   have hcs := catB_size hR i
   have hI' := hI h'
   rw [hck, hcat] at hI'
   generalize R[i] = r at *
   refine wc_for r.size (fun k => [(0, .slice (strs R) R.length .unk), (1, .int .i64 m), (5, .str (catB R i)), (6, .int .i64 (ck R i + rs r k * (i + 1 : Nat))), (7, .int .i64 i), (8, .int .i64 k)]) (fun _ => St.empty) (by simp only [rs, Int.zero_mul, Int.add_zero]; rfl) rfl ?_
   intro k hk I2 hI2
   by_cases h'' : k < r.size
   ·have g1 : (k : Int) < r.size := by omega
    have g4 : IntKind.i64.wrap ((k : Int) + 1) = (k + 1 : Nat) := wrap64 (by omega)
    have hbt : r[k]? = some r[k] := by simp [h'']
    have hB : r[k].toNat ≤ 255 := Nat.le_of_lt_succ (UInt8.toNat_lt _)
    have hrs : rs r (k + 1) = rs r k + (r[k].toNat : Int) * (k + 1 : Nat) := by
     show rs r k + (((r[k]?).getD 0).toNat : Int) * _ = _
     rw [hbt]; rfl
    have hb2 := rs_bd100 r (k := k) (by omega)
    have p1 : 0 ≤ (r[k].toNat : Int) * (k + 1 : Nat) := Int.mul_nonneg (by omega) (by omega)
    have p2 : (r[k].toNat : Int) * (k + 1 : Nat) ≤ 255 * (100 : Int) := Int.mul_le_mul (by omega) (by omega) (by omega) (by omega)
    have p3 : 0 ≤ (r[k].toNat : Int) * (k + 1 : Nat) * (i + 1 : Nat) := Int.mul_nonneg p1 (by omega)
    have p4 : (r[k].toNat : Int) * (k + 1 : Nat) * (i + 1 : Nat) ≤ 25500 * (3000 : Int) := Int.mul_le_mul (by omega) (by omega) (by omega) (by omega)
    have p5 : 0 ≤ rs r k * (i + 1 : Nat) := Int.mul_nonneg hb2.1 (by omega)
    have p6 : rs r k * (i + 1 : Nat) ≤ 2550000 * (3000 : Int) := Int.mul_le_mul hb2.2 (by omega) (by omega) (by omega)
    have w1 : IntKind.i64.wrap (r[k].toNat : Int) = r[k].toNat := wrap64 (by omega)
    have w2 : IntKind.i64.wrap ((r[k].toNat : Int) * (k + 1 : Nat)) = (r[k].toNat : Int) * (k + 1 : Nat) := wrap64 (by omega)
    have w3 : IntKind.i64.wrap ((r[k].toNat : Int) * (k + 1 : Nat) * (i + 1 : Nat)) = (r[k].toNat : Int) * (k + 1 : Nat) * (i + 1 : Nat) := wrap64 (by omega)
    have w4 : IntKind.i64.wrap (ck R i + rs r k * (i + 1 : Nat) + (r[k].toNat : Int) * (k + 1 : Nat) * (i + 1 : Nat)) = ck R i + rs r k * (i + 1 : Nat) + (r[k].toNat : Int) * (k + 1 : Nat) * (i + 1 : Nat) := wrap64 (by omega)
    have hz : 0 ≤ (k : Int) := by omega
    simp only [go_sem, l112_1, builtinA, h2, strs_get, h3, Option.map_some, g1, decide_true, hz, hbt, convA, w1, w2, w3, w4, g4, h4, reduceEqDiff, Nat.reduceBEq, reduceAdd, reduceIte, reduceCtorEq, reduceLeDiff]
    have := hI2 h''
    rw [hrs, Int.add_mul, ← Int.add_assoc] at this
    exact this
   have g1 : ¬ (k : Int) < r.size := by omega
   have e : k = r.size := by omega
   subst e
   clear hI2 hk h''
   have a1 : binA T .add 9 (.str (catB R i)) (.str r) = some (.str (catB R i ++ r)) := addS (by omega)
   have a2 : binA T .add 9 (.str (catB R i ++ r)) (.str ⟨#[10]⟩) = some (.str (catB R i ++ r ++ lf)) := addS (by rw [ByteArray.size_append]; show _ + _ + 1 ≤ _; omega)
   simp only [go_sem, l112_1, builtinA, h2, strs_get, h3, Option.map_some, g1, decide_false, a1, a2, h4, reduceEqDiff, Nat.reduceBEq, reduceAdd, reduceIte, reduceCtorEq, reduceLeDiff]
   exact hI'
  have h1 : ¬ (i : Int) < R.length := by omega
  have e : i = R.length := by omega
  subst e
  clear hI hi h'
  have hb := ck_bd hR R.length (by omega)
  have hcs := catB_size hR R.length
  have hfin : sealB R m = catB R R.length ++ endB ((ck R R.length).tmod m) ++ lf := rfl
  rw [hfin]
  generalize ck R R.length = C at *
  generalize catB R R.length = Z at *
  have e1 : intOp .rem .i64 C m = some (.int .i64 (C.tmod m)) := by
   show (if m = 0 then none else some (AV.int .i64 (C.tmod m))) = _
   rw [if_neg (by omega)]
  have hc0 : 0 ≤ C.tmod m := Int.tmod_nonneg _ hb.1
  have hc1 : C.tmod m < m := Int.tmod_lt_of_pos _ hm.1
  simp only [go_sem, l112_0, builtinA, h1, decide_false, e1, reduceEqDiff, Nat.reduceBEq, reduceAdd, reduceIte, reduceCtorEq, reduceLeDiff]
  generalize C.tmod m = c at *
  have d1 : c.tdiv 100 = c / 100 := Int.tdiv_eq_ediv_of_nonneg hc0
  have d2 : c.tdiv 10 = c / 10 := Int.tdiv_eq_ediv_of_nonneg hc0
  have d3 : (c.tdiv 10).tmod 10 = c / 10 % 10 := by rw [d2]; exact Int.tmod_eq_emod_of_nonneg (by omega)
  have d4 : c.tmod 10 = c % 10 := Int.tmod_eq_emod_of_nonneg hc0
  have e2 : intOp .quo .i64 c 100 = some (.int .i64 (c.tdiv 100)) := by
   show some (AV.int .i64 (IntKind.i64.wrap (c.tdiv 100))) = _
   rw [wrap64 (by omega)]
  have e3 : intOp .quo .i64 c 10 = some (.int .i64 (c.tdiv 10)) := by
   show some (AV.int .i64 (IntKind.i64.wrap (c.tdiv 10))) = _
   rw [wrap64 (by omega)]
  have e4 : intOp .rem .i64 (c.tdiv 10) 10 = some (.int .i64 ((c.tdiv 10).tmod 10)) := rfl
  have e5 : intOp .rem .i64 c 10 = some (.int .i64 (c.tmod 10)) := rfl
  have i1 : i64 (c.tdiv 100) := ⟨by omega, by omega⟩
  have i2 : i64 ((c.tdiv 10).tmod 10) := ⟨by omega, by omega⟩
  have i3 : i64 (c.tmod 10) := ⟨by omega, by omega⟩
  have z1 := itoaB_size i1
  have z2 := itoaB_size i2
  have z3 := itoaB_size i3
  have a1 : binA T .add 9 (.str Z) (.str ⟨#[101, 110, 100, 32]⟩) = some (.str (Z ++ endW)) := addS (by show _ + 4 ≤ _; omega)
  have s1 : (Z ++ endW).size ≤ 101 * R.length + 4 := by rw [ByteArray.size_append]; show _ + 4 ≤ _; omega
  have a2 : binA T .add 9 (.str (Z ++ endW)) (.str (itoaB (c.tdiv 100))) = some (.str (Z ++ endW ++ itoaB (c.tdiv 100))) := addS (by omega)
  have s2 : (Z ++ endW ++ itoaB (c.tdiv 100)).size ≤ 101 * R.length + 25 := by rw [ByteArray.size_append]; omega
  have a3 := addS (a := Z ++ endW ++ itoaB (c.tdiv 100)) (b := itoaB ((c.tdiv 10).tmod 10)) (by omega)
  have s3 : (Z ++ endW ++ itoaB (c.tdiv 100) ++ itoaB ((c.tdiv 10).tmod 10)).size ≤ 101 * R.length + 46 := by rw [ByteArray.size_append]; omega
  have a4 := addS (a := Z ++ endW ++ itoaB (c.tdiv 100) ++ itoaB ((c.tdiv 10).tmod 10)) (b := itoaB (c.tmod 10)) (by omega)
  have s4 : (Z ++ endW ++ itoaB (c.tdiv 100) ++ itoaB ((c.tdiv 10).tmod 10) ++ itoaB (c.tmod 10)).size ≤ 101 * R.length + 67 := by rw [ByteArray.size_append]; omega
  have a5 : binA T .add 9 (.str (Z ++ endW ++ itoaB (c.tdiv 100) ++ itoaB ((c.tdiv 10).tmod 10) ++ itoaB (c.tmod 10))) (.str ⟨#[10]⟩) = some (.str (Z ++ endB c ++ lf)) := by
   have : Z ++ endB c ++ lf = Z ++ endW ++ itoaB (c.tdiv 100) ++ itoaB ((c.tdiv 10).tmod 10) ++ itoaB (c.tmod 10) ++ lf := by
    unfold endB
    simp only [ByteArray.append_assoc]
   rw [this]
   exact addS (by show _ + 1 ≤ _; omega)
  simp only [go_sem, a1, e2, reduceEqDiff, Nat.reduceBEq, reduceAdd, reduceIte, reduceCtorEq, reduceLeDiff]
  refine cp n147 (Decimal_pc _ _ (Nat.le_refl _) i1) (SubL.refl _) ?_
  simp only [go_sem, a2, e3, e4, reduceEqDiff, Nat.reduceBEq, reduceAdd, reduceIte, reduceCtorEq, reduceLeDiff]
  refine cp n147 (Decimal_pc _ _ (Nat.le_refl _) i2) (SubL.refl _) ?_
  simp only [go_sem, a3, e5, reduceEqDiff, Nat.reduceBEq, reduceAdd, reduceIte, reduceCtorEq, reduceLeDiff]
  refine cp n147 (Decimal_pc _ _ (Nat.le_refl _) i3) (SubL.refl _) ?_
  simp only [go_sem, a4, a5, Tryz.f112, reduceEqDiff, Nat.reduceBEq, reduceAdd, reduceIte, reduceCtorEq, reduceLeDiff]
 exact fun c S w vs h1 h2 => key c S w vs h1 (SubL.cons (Sub.unk _ _ _) (SubL.refl _) c vs h2)
end Go.Av.Fx
end
