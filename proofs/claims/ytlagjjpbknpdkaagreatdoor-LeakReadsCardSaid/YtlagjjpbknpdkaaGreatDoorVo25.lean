/- Part 25 of the proof. -/
import Derived.Test.YtlagjjpbknpdkaaGreatDoorVo24
import Derived.Test.YtlagjjpbknpdkaaGreatDoorVo21
import Derived.Test.YtlagjjpbknpdkaaGreatDoorVo22
import Derived.Test.YtlagjjpbknpdkaaGreatDoorVo23
import Derived.Test.YtlagjjpbknpdkaaGreatDoorVo14
import Derived.Test.YtlagjjpbknpdkaaGreatDoorRows
import Derived.ProofKit
import Derived.LaidMore
import Derived.OpenShut
import Derived.Deep.Slices
import Derived.Stop.Joined
import Derived.ChangeOld
import Derived.SizedLaws
import Derived.Test.YtlagjjpbknpdkaaGreatDoorTie
import Derived.Test.YtlagjjpbknpdkaaGreatDoorCards
import Derived.Lib.LaidTab
import Derived.Lib.ItoaNum
import Derived.Lay
import Derived.LaidOnce
import Derived.MakeChecks
import Derived.SevenTiedAt
import Derived.Test.YtlagjjpbknpdkaaGreatDoorVo19
set_option linter.all false
set_option linter.unusedVariables false
set_option linter.unusedSimpArgs false
set_option linter.unusedSectionVars false
open Nat (reduceEqDiff reduceAdd reduceLeDiff)
section
namespace Go.Av.Fx
open Go Go.Av Go.Av.Tb Go.Proofs
theorem Sub.map {α : Type} (f g : α → AV) (h : ∀ a, Sub (f a) (g a)) (L : List α) (n : Nat) (t : Tail) : Sub (.slice (L.map f) n t) (.slice (L.map g) n .unk) := by
 intro c x hx
 generalize hl : L.map f = l at hx
 cases hx with
 | slice _ _ _ b off cap vs hc hk hr he ht =>
  subst hl
  refine .slice _ n .unk b off cap vs hc (fun j hj => hk j (by simpa using hj)) (fun j y hy => ?_) (fun e => by cases e) (fun k e => by cases e)
  rw [List.getElem?_map] at hy
  cases e : L[j]? with
  | none => rw [e] at hy; cases hy
  | some a =>
   rw [e] at hy; cases hy
   exact h a c _ (hr j (f a) (by rw [List.getElem?_map, e]; rfl))
 | sliceNil _ ht =>
  have : L = [] := by simpa using hl
  subst this
  exact .sliceNil .unk (fun k e => by cases e)
theorem askM : askE lineM true = 0 := by simp [askE, kM_line, kM_poss]
theorem okM : okLine lineM := ⟨by decide, by decide⟩
theorem okN : okLine lineN := ⟨by decide, by decide⟩
theorem q1 : PC Tryz.prog 41 [lineA lineN] (.pure (.tuple [.bool false, .int .i64 0])) := by
 have := Possible_pc lineN okN
 rw [kN_line, kN_poss] at this; exact this
theorem q2 : PC Tryz.prog 22 [lineA lineM] (.pure (.tuple [sll [[0], [1], [2]], .int .i64 0])) := by
 have := Sets_pc lineM okM
 unfold setsA at this
 rw [if_pos askM, kM_sets] at this; exact this
theorem q3 : PC Tryz.prog 21 [lineA lineM] (.pure (.tuple [sl [2, 2, 2], .int .i64 0])) := by
 have := Known_pc lineM okM
 unfold knownA at this
 rw [if_pos askM, show lineM.gives.length = 3 from rfl, kM_words] at this; exact this
theorem q4 : PC Tryz.prog 34 [lineA lineM, .int .i64 1] (.pure (.tuple [spA ⟨78, 94⟩, .int .i64 0])) := by
 have := Flows_pc lineM okM 1
 unfold flowsA at this
 rw [show inB 1 0 lineM.gives.length = true from rfl, if_pos askM, show Int.toNat 1 = 1 from rfl, kM_flows] at this; exact this
theorem q5 : PC Tryz.prog 35 [lineA lineM, .int .i64 0, .int .i64 3] (.pure (.tuple [spA ⟨8, 15⟩, .int .i64 0])) := by
 have := Lost_pc lineM okM 0 3
 unfold lostA at this
 rw [show fineLost lineM 0 3 = true from rfl, if_pos askM, show Int.toNat 0 = 0 from rfl, show Int.toNat 3 = 3 from rfl, kM_lost] at this; exact this
theorem q6 : PC Tryz.prog 30 [lineA lineM, sl [1]] (.pure (.tuple [spA ⟨8, 15⟩, .int .i64 0])) := by
 have := Explains_pc lineM okM [1] (by decide)
 unfold explA at this
 rw [if_pos ⟨kM_line, by decide⟩, if_pos (show isSetB lineM [1] = true by decide +kernel)] at this
 have h := kM_expl
 cases hx : explM lineM [1] with
 | none => rw [hx] at h; cases h
 | some W =>
  rw [hx] at h this
  have h : lostS lineM W 0 3 = ⟨8, 15⟩ := by simpa using h
  simp only [show lineM.gives.length = 3 from rfl, h] at this
  exact this
theorem q7 : PC Tryz.prog 43 [lineA lineM, .int .i64 2] (.pure (.tuple [.int .i64 1, .int .i64 2, .int .i64 0])) := by
 have := Next_pc lineM okM 2
 unfold nextA at this
 rw [show inB 2 0 20 = true from rfl, if_pos askM, kM_next] at this; exact this
theorem q8 : PC Tryz.prog 47 [lineA lineM, sl [1, 2], .int .i64 2] (.pure (.tuple [.bool true, .int .i64 0])) := by
 have := Tells_pc lineM okM [1, 2] (by decide) 2
 unfold tellsA at this
 rw [show fineTells lineM [1, 2] 2 = true by decide +kernel, if_pos askM, kM_tells] at this; exact this
theorem q9 : PC Tryz.prog 48 [lineA lineM, .int .i64 2] (.pure (.tuple [sl [1, 2], .int .i64 0])) := by
 have := Plan_pc lineM okM 2
 unfold planA at this
 rw [show inB 2 0 20 = true from rfl, if_pos askM, kM_plan] at this; exact this
theorem q10 : PC Tryz.prog 53 [lineA lineN] (.pure (.tuple [.int .i64 0, .int .i64 2, .int .i64 0])) := by
 have := Clash_pc lineN okN
 unfold clashA at this
 rw [if_pos kN_line, kN_clash] at this; exact this
theorem q11 : PC Tryz.prog 54 [lineA lineN] (.pure (.tuple [sl [0], .int .i64 0])) := by
 have := Wrong_pc lineN okN
 unfold wrongA at this
 rw [if_pos kN_line, kN_wrong] at this; exact this
theorem q12 : PC Tryz.prog 61 [.str exT] (.pure (.tuple [lineA lineT, .int .i64 0])) := by
 have := Read_pc exT (by decide)
 unfold readA at this
 rw [if_pos (by decide), kT] at this
 simp only [if_pos kT_line] at this
 exact this
theorem q13 : PC Tryz.prog 62 [lineA lineT] (.pure (.str exT)) := by
 have := rPrint_pc lineT (isLine_iff.1 kT_line).plain
 rw [kT_text] at this; exact this
@[go_sem] theorem ne42a : binA T .neq 42 (.agg [.int .i64 78, .int .i64 94]) (.agg [.int .i64 78, .int .i64 94]) = some (.bool false) := rfl
@[go_sem] theorem ne42b : binA T .neq 42 (.agg [.int .i64 8, .int .i64 15]) (.agg [.int .i64 8, .int .i64 15]) = some (.bool false) := rfl
set_option maxRecDepth 100000 in
theorem known_pc : PC Tryz.prog 20 [] (.pure (.bool true)) := by
 refine PC.of_empty (AC.run (E_ok _) mix Tryz.func20 m20 rfl rfl rfl (Nat.le_of_ble_eq_true rfl) ?_) rfl rfl
 simp only [go_sem, reduceEqDiff, Nat.reduceBEq, reduceAdd, reduceIte, reduceCtorEq, reduceLeDiff]
 refine cp n73 N_pc (SubL.refl _) ?_
 simp only [go_sem, reduceEqDiff, Nat.reduceBEq, reduceAdd, reduceIte, reduceCtorEq, reduceLeDiff]
 refine cp n41 q1 (SubL.refl _) ?_
 simp only [go_sem, extractA, reduceEqDiff, Nat.reduceBEq, reduceAdd, reduceIte, reduceCtorEq, reduceLeDiff]
 refine cp n74 M_pc (SubL.refl _) ?_
 simp only [go_sem, reduceEqDiff, Nat.reduceBEq, reduceAdd, reduceIte, reduceCtorEq, reduceLeDiff]
 refine cp n22 q2 (SubL.refl _) ?_
 simp only [go_sem, extractA, reduceEqDiff, Nat.reduceBEq, reduceAdd, reduceIte, reduceCtorEq, reduceLeDiff]
 refine cp n74 M_pc (SubL.refl _) ?_
 simp only [go_sem, reduceEqDiff, Nat.reduceBEq, reduceAdd, reduceIte, reduceCtorEq, reduceLeDiff]
 refine cp n21 q3 (SubL.refl _) ?_
 simp only [go_sem, extractA, reduceEqDiff, Nat.reduceBEq, reduceAdd, reduceIte, reduceCtorEq, reduceLeDiff]
 refine cp n74 M_pc (SubL.refl _) ?_
 simp only [go_sem, reduceEqDiff, Nat.reduceBEq, reduceAdd, reduceIte, reduceCtorEq, reduceLeDiff]
 refine cp n34 q4 (SubL.refl _) ?_
 simp only [go_sem, extractA, put_eq, reduceEqDiff, Nat.reduceBEq, reduceAdd, reduceIte, reduceCtorEq, reduceLeDiff]
 refine cp n74 M_pc (SubL.refl _) ?_
 simp only [go_sem, reduceEqDiff, Nat.reduceBEq, reduceAdd, reduceIte, reduceCtorEq, reduceLeDiff]
 refine cp n35 q5 (SubL.refl _) ?_
 simp only [go_sem, extractA, put_eq, reduceEqDiff, Nat.reduceBEq, reduceAdd, reduceIte, reduceCtorEq, reduceLeDiff]
 refine cp n74 M_pc (SubL.refl _) ?_
 simp only [go_sem, reduceEqDiff, Nat.reduceBEq, reduceAdd, reduceIte, reduceCtorEq, reduceLeDiff]
 refine cp n30 q6 (SubL.cons (Sub.refl _) (SubL.cons (Sub.unk _ _ _) (SubL.refl _))) ?_
 simp only [go_sem, extractA, put_eq, reduceEqDiff, Nat.reduceBEq, reduceAdd, reduceIte, reduceCtorEq, reduceLeDiff]
 refine cp n74 M_pc (SubL.refl _) ?_
 simp only [go_sem, reduceEqDiff, Nat.reduceBEq, reduceAdd, reduceIte, reduceCtorEq, reduceLeDiff]
 refine cp n43 q7 (SubL.refl _) ?_
 simp only [go_sem, extractA, reduceEqDiff, Nat.reduceBEq, reduceAdd, reduceIte, reduceCtorEq, reduceLeDiff]
 refine cp n74 M_pc (SubL.refl _) ?_
 simp only [go_sem, reduceEqDiff, Nat.reduceBEq, reduceAdd, reduceIte, reduceCtorEq, reduceLeDiff]
 refine cp n47 q8 (SubL.cons (Sub.refl _) (SubL.cons (Sub.unk _ _ _) (SubL.refl _))) ?_
 simp only [go_sem, extractA, reduceEqDiff, Nat.reduceBEq, reduceAdd, reduceIte, reduceCtorEq, reduceLeDiff]
 refine cp n74 M_pc (SubL.refl _) ?_
 simp only [go_sem, reduceEqDiff, Nat.reduceBEq, reduceAdd, reduceIte, reduceCtorEq, reduceLeDiff]
 refine cp n48 q9 (SubL.refl _) ?_
 simp only [go_sem, extractA, reduceEqDiff, Nat.reduceBEq, reduceAdd, reduceIte, reduceCtorEq, reduceLeDiff]
 refine cp n73 N_pc (SubL.refl _) ?_
 simp only [go_sem, reduceEqDiff, Nat.reduceBEq, reduceAdd, reduceIte, reduceCtorEq, reduceLeDiff]
 refine cp n53 q10 (SubL.refl _) ?_
 simp only [go_sem, extractA, reduceEqDiff, Nat.reduceBEq, reduceAdd, reduceIte, reduceCtorEq, reduceLeDiff]
 refine cp n73 N_pc (SubL.refl _) ?_
 simp only [go_sem, reduceEqDiff, Nat.reduceBEq, reduceAdd, reduceIte, reduceCtorEq, reduceLeDiff]
 refine cp n54 q11 (SubL.refl _) ?_
 simp only [go_sem, extractA, reduceEqDiff, Nat.reduceBEq, reduceAdd, reduceIte, reduceCtorEq, reduceLeDiff]
 refine cp n61 q12 (SubL.refl _) ?_
 have z0 : ¬ ((0 : Int) ≠ 0) := by decide
 simp only [go_sem, extractA, put_eq, z0, decide_false, reduceEqDiff, Nat.reduceBEq, reduceAdd, reduceIte, reduceCtorEq, reduceLeDiff]
 refine cp n26 (SameSets_pc [[0], [1], [2]] [[0], [1], [2]] (by decide) (by decide) (by decide) (by decide)) (SubL.cons (Sub.refl _) (SubL.cons (Sub.map (fun s => .slice (ints s) s.length .exact) sl (fun s => Sub.unk _ _ _) [[0], [1], [2]] 3 .exact) (SubL.refl _))) ?_
 rw [decide_eq_true rfl]
 simp only [go_sem, un_not, Bool.not_true, reduceEqDiff, Nat.reduceBEq, reduceAdd, reduceIte, reduceCtorEq, reduceLeDiff]
 refine cp n24 (SameWords_pc [2, 2, 2] [2, 2, 2] (by decide) (by decide)) (SubL.cons (Sub.refl _) (SubL.cons (Sub.unk _ _ _) (SubL.refl _))) ?_
 rw [decide_eq_true rfl]
 have z1 : decide ((1 : Int) = 1) = true := rfl
 have z2 : decide ((2 : Int) = 2) = true := rfl
 have z3 : decide ((0 : Int) = 0) = true := rfl
 simp only [go_sem, un_not, Bool.not_true, put_eq, z1, z2, z3, decide_true, reduceEqDiff, Nat.reduceBEq, reduceAdd, reduceIte, reduceCtorEq, reduceLeDiff]
 refine cp n50 (Same_pc [1, 2] [1, 2] (by decide) (by decide)) (SubL.cons (Sub.refl _) (SubL.cons (Sub.unk _ _ _) (SubL.refl _))) ?_
 rw [decide_eq_true rfl]
 simp only [go_sem, un_not, Bool.not_true, put_eq, z1, z2, z3, decide_true, reduceEqDiff, Nat.reduceBEq, reduceAdd, reduceIte, reduceCtorEq, reduceLeDiff]
 refine cp n50 (Same_pc [0] [0] (by decide) (by decide)) (SubL.cons (Sub.refl _) (SubL.cons (Sub.unk _ _ _) (SubL.refl _))) ?_
 rw [decide_eq_true rfl]
 simp only [go_sem, un_not, Bool.not_true, put_eq, z1, z2, z3, decide_true, reduceEqDiff, Nat.reduceBEq, reduceAdd, reduceIte, reduceCtorEq, reduceLeDiff]
 refine cp n62 q13 (SubL.refl _) ?_
 have z4 : binA T .eql 9 (.str exT) (.str ⟨#[108, 105, 110, 101, 32, 49, 32, 49, 32, 48, 10, 115, 116, 114, 101, 116, 99, 104, 32, 48, 10, 101, 110, 100, 32, 48, 53, 49, 10]⟩) = some (.bool true) := (show binA T .eql 9 (.str exT) (.str exT) = some (.bool true) by rw [eqS, decide_eq_true rfl])
 simp only [go_sem, z4, Tryz.f20, reduceEqDiff, Nat.reduceBEq, reduceAdd, reduceIte, reduceCtorEq, reduceLeDiff]
end Go.Av.Fx
end
section
namespace Go.Av.Fx
open Go Go.Av Go.Proofs
open Go.Fw (Sq ent Bd Mat Tells Good)
structure Spn (P : (Nat → Int) → Prop) (g : (Nat → Int) → Int) (sp : Span) : Prop where
 bd : ∀ f, P f → sp.low ≤ g f ∧ g f ≤ sp.high
 lo : ∃ f, P f ∧ g f = sp.low
 hi : ∃ f, P f ∧ g f = sp.high
theorem Spn.imp {P Q : (Nat → Int) → Prop} {g : (Nat → Int) → Int} {a : Span} (h : Spn P g a) (e : ∀ f, P f ↔ Q f) : Spn Q g a := by
 obtain ⟨f1, p1, e1⟩ := h.lo
 obtain ⟨f2, p2, e2⟩ := h.hi
 exact ⟨fun f hf => h.bd f ((e f).2 hf), ⟨f1, (e _).1 p1, e1⟩, ⟨f2, (e _).1 p2, e2⟩⟩
theorem Spn.join {P Q : (Nat → Int) → Prop} {g : (Nat → Int) → Int} {a b : Span} (h : Spn P g a) (h' : Spn Q g b) : Spn (fun f => P f ∨ Q f) g (joinS a b) := by
 obtain ⟨f1, p1, e1⟩ := h.lo
 obtain ⟨f2, p2, e2⟩ := h.hi
 obtain ⟨f3, p3, e3⟩ := h'.lo
 obtain ⟨f4, p4, e4⟩ := h'.hi
 unfold joinS
 refine ⟨?_, ?_, ?_⟩
 ·rintro f (hf | hf)
  ·have := h.bd f hf
   constructor
   ·show (if b.low < a.low then b.low else a.low) ≤ _; split <;> omega
   ·show _ ≤ (if b.high > a.high then b.high else a.high); split <;> omega
  ·have := h'.bd f hf
   constructor
   ·show (if b.low < a.low then b.low else a.low) ≤ _; split <;> omega
   ·show _ ≤ (if b.high > a.high then b.high else a.high); split <;> omega
 ·by_cases c : b.low < a.low
  ·exact ⟨f3, .inr p3, by show _ = if b.low < a.low then b.low else a.low; rw [if_pos c]; exact e3⟩
  ·exact ⟨f1, .inl p1, by show _ = if b.low < a.low then b.low else a.low; rw [if_neg c]; exact e1⟩
 ·by_cases c : b.high > a.high
  ·exact ⟨f4, .inr p4, by show _ = if b.high > a.high then b.high else a.high; rw [if_pos c]; exact e4⟩
  ·exact ⟨f2, .inl p2, by show _ = if b.high > a.high then b.high else a.high; rw [if_neg c]; exact e2⟩
theorem Spn.fold {α : Type} {P : α → (Nat → Int) → Prop} {g : (Nat → Int) → Int} {f : α → Span} : ∀ (L : List α) {Q : (Nat → Int) → Prop} {o : Span}, Spn Q g o → (∀ t ∈ L, Spn (P t) g (f t)) →
  Spn (fun x => Q x ∨ ∃ t, t ∈ L ∧ P t x) g (L.foldl (fun o t => joinS o (f t)) o)
 | [], Q, o, h, _ => h.imp fun x => ⟨.inl, fun hx => hx.elim id fun ⟨t, ht, _⟩ => by cases ht⟩
 | t :: L, Q, o, h, hL => by
  refine (Spn.fold L (h.join (hL t List.mem_cons_self)) fun t ht => hL t (List.mem_cons_of_mem _ ht)).imp fun x => ?_
  constructor
  ·rintro ((h | h) | ⟨u, hu, h⟩)
   ·exact .inl h
   ·exact .inr ⟨t, List.mem_cons_self, h⟩
   ·exact .inr ⟨u, List.mem_cons_of_mem _ hu, h⟩
  ·rintro (h | ⟨u, hu, h⟩)
   ·exact .inl (.inl h)
   ·rcases List.mem_cons.1 hu with rfl | hu
    ·exact .inl (.inr h)
    ·exact .inr ⟨u, hu, h⟩
end Go.Av.Fx
end
section
namespace Go.Av.Fx
open Go Go.Av Go.Av.Tb Go.Proofs
end Go.Av.Fx
end
section
namespace Go.Av.Fx
open Go Go.Av Go.Proofs
open Go.Fw (Sq ent Bd Mat Tells Good)
end Go.Av.Fx
end
section
namespace Go.Av.Fx
open Go Go.Av Go.Proofs
open Go.Fw (Sq ent Bd Mat Tells Good)
end Go.Av.Fx
end
section
namespace Go.Av.Fx
open Go Go.Av Go.Av.Tb Go.Proofs
end Go.Av.Fx
end
section
namespace Go.Av.Fx
open Go Go.Av Go.Av.Tb Go.Proofs
theorem ne82s (a b c : Int) : binA T .neq 82 (.agg [.int .i64 a, .int .i64 b, .int .i64 c]) (.agg [.int .i64 a, .int .i64 b, .int .i64 c]) = some (.bool false) := by
 have : binA T .neq 82 (.agg [.int .i64 a, .int .i64 b, .int .i64 c]) (.agg [.int .i64 a, .int .i64 b, .int .i64 c]) = (if (a == a) = true then (if (b == b) = true then (if (c == c) = true then some true else some false) else some false) else some false).map (AV.bool !·) := rfl
 rw [this]
 simp
theorem SameLines_self (l : LLine) (ok : okLine l) : PC Tryz.prog 63 [lineA l, lineA l] (.pure (.bool true)) := by
 obtain ⟨ok1, ok2⟩ := ok
 refine PC.of_empty (AC.run (E_ok _) mix Tryz.func63 m63 rfl rfl rfl (Nat.le_of_ble_eq_true rfl) ?_) (by simp [bndL, AV.bnd]) rfl
 have n1 : ¬ (l.least ≠ l.least) := fun h => h rfl
 have n2 : ¬ (l.most ≠ l.most) := fun h => h rfl
 have n3 : ¬ (l.taps ≠ l.taps) := fun h => h rfl
 have n4 : ¬ ((l.counts.length : Int) ≠ l.counts.length) := fun h => h rfl
 have hS := Same_pc l.gives l.gives ok1 ok1
 rw [decide_eq_true rfl] at hS
 unfold okL at ok2
 simp only [go_sem, boxA, n1, n2, n3, decide_false, reduceEqDiff, Nat.reduceBEq, reduceAdd, reduceIte, reduceCtorEq, reduceLeDiff]
 refine cp n50 hS (SubL.refl _) ?_
 simp only [go_sem, un_not, Bool.not_true, builtinA, n4, decide_false, reduceEqDiff, Nat.reduceBEq, reduceAdd, reduceIte, reduceCtorEq, reduceLeDiff]
 refine wc_for l.counts.length (fun k => [(2, .ref 0 0), (3, .ref 1 0), (5, .int .i64 k)]) (fun _ => ⟨[some (.cells (lineC l)), some (.cells (lineC l))], 0, []⟩) rfl rfl ?_
 intro k hk I hI
 by_cases g : k < l.counts.length
 ·have h1 : (k : Int) < l.counts.length := by omega
  have h2 : 0 ≤ (k : Int) ∧ (k : Int) < l.counts.length := by omega
  have h3 : k * 3 + 3 ≤ (cnts l.counts).length := by rw [cnts_len]; omega
  have h5 := cnts_at l.counts k g
  have h4 : IntKind.i64.wrap ((k : Int) + 1) = (k + 1 : Nat) := wrap64 (by omega)
  have hn := ne82s l.counts[k].point l.counts[k].low l.counts[k].high
  simp only [go_sem, l63_0, builtinA, h1, decide_true, h2, h3, h5, hn, h4, reduceEqDiff, Nat.reduceBEq, reduceAdd, reduceIte, reduceCtorEq, reduceLeDiff]
  exact hI g
 ·have h1 : ¬ (k : Int) < l.counts.length := by omega
  have ek : k = l.counts.length := by omega
  subst ek
  simp only [go_sem, l63_0, builtinA, h1, decide_false, Tryz.f63, reduceEqDiff, Nat.reduceBEq, reduceAdd, reduceIte, reduceCtorEq, reduceLeDiff]
end Go.Av.Fx
end
section
namespace Go.Av.Fx
open Go Go.Av Go.Av.Tb Go.Proofs
end Go.Av.Fx
end
section
namespace Go.Av.Fx
open Go Go.Av Go.Av.Tb Go.Proofs
@[go_sem] theorem cv5_3 (n : Int) : convA T 5 3 (.int .u8 n) = some (.int .i64 (IntKind.i64.wrap n)) := rfl
@[go_sem] theorem cv9_93 (s : ByteArray) : convA T 9 93 (.str s) = none := rfl
@[go_sem] theorem cv93_9 (a b c d : Nat) : convA T 93 9 (.sref a b c d) = none := rfl
theorem sub_zero : Sub (.agg [.nilS, .int .i64 0, .int .i64 0, .int .i64 0, .nilS]) (lineA zeroL) := Sub.agg (SubL.cons Sub.nil (SubL.cons (Sub.refl _) (SubL.cons (Sub.refl _) (SubL.cons (Sub.refl _) (SubL.cons Sub.nil (SubL.refl []))))))
end Go.Av.Fx
end
section
namespace Go.Av.Fx
open Go Go.Av Go.Av.Tb Go.Proofs
set_option maxHeartbeats 4000000 in
theorem LeakReads_pc (s : ByteArray) (hs0 : s.size ≤ maxLen) : PC Tryz.prog 14 [.str s] (.pure (.bool true)) := by
 refine PC.of_empty (AC.run (E_ok _) mix Tryz.func14 m14 rfl rfl rfl (Nat.le_of_ble_eq_true rfl) ?_) (by simp [bndL, AV.bnd]) rfl
 by_cases g4 : (s.size : Int) > 400
 ·simp only [go_sem, builtinA, g4, decide_true, reduceEqDiff, Nat.reduceBEq, reduceAdd, reduceIte, reduceCtorEq, reduceLeDiff]
  refine cp n20 known_pc (SubL.refl _) ?_
  simp only [go_sem, Tryz.f14, reduceEqDiff, Nat.reduceBEq, reduceAdd, reduceIte, reduceCtorEq, reduceLeDiff]
 simp only [go_sem, builtinA, g4, decide_false, reduceEqDiff, Nat.reduceBEq, reduceAdd, reduceIte, reduceCtorEq, reduceLeDiff]
 have hs4 : s.size ≤ 400 := by omega
 have hL := Read_pc s (by omega)
 have hR := rRead_pc s (by omega)
 have hpok := fun l (h : parsedB s = some l) => parsedB_ok h (by omega)
 have hptx := fun l (h : parsedB s = some l) => (parsedB_some h).2.1
 unfold readA at hL
 unfold rReadA at hR
 rw [rread_eq] at hR
 unfold zeroC at hL hR
 have hZ := SameLines_self zeroL ⟨by decide, by decide⟩
 have y0 : ¬ ((0 : Int) ≠ 0) := by decide
 have z00 : decide ((0 : Int) = 0) = true := rfl
 by_cases g3 : s.size ≤ 300
 rotate_left
 ·have g3' : (s.size : Int) > 300 := by omega
  rw [if_neg g3] at hL
  have z33 : decide ((3 : Int) = 3) = true := rfl
  have y3 : decide ((3 : Int) ≠ 0) = true := rfl
  refine cp n61 hL (SubL.refl _) ?_
  simp only [go_sem, extractA, reduceEqDiff, Nat.reduceBEq, reduceAdd, reduceIte, reduceCtorEq, reduceLeDiff]
  refine cp n64 hR (SubL.refl _) ?_
  cases hp : parsedB s with
  | none =>
   simp only [go_sem, extractA, put_eq, builtinA, g3', decide_true, y3, z33, reduceEqDiff, Nat.reduceBEq, reduceAdd, reduceIte, reduceCtorEq, reduceLeDiff]
   refine cp n63 hZ (SubL.cons sub_zero (SubL.cons sub_zero (SubL.refl []))) ?_
   simp only [go_sem, reduceEqDiff, Nat.reduceBEq, reduceAdd, reduceIte, reduceCtorEq, reduceLeDiff]
   refine cp n20 known_pc (SubL.refl _) ?_
   simp only [go_sem, Tryz.f14, reduceEqDiff, Nat.reduceBEq, reduceAdd, reduceIte, reduceCtorEq, reduceLeDiff]
  | some l =>
   simp only [go_sem, extractA, put_eq, builtinA, g3', decide_true, y3, z33, reduceEqDiff, Nat.reduceBEq, reduceAdd, reduceIte, reduceCtorEq, reduceLeDiff]
   refine cp n63 hZ (SubL.cons sub_zero (SubL.cons sub_zero (SubL.refl []))) ?_
   simp only [go_sem, reduceEqDiff, Nat.reduceBEq, reduceAdd, reduceIte, reduceCtorEq, reduceLeDiff]
   refine cp n20 known_pc (SubL.refl _) ?_
   simp only [go_sem, Tryz.f14, reduceEqDiff, Nat.reduceBEq, reduceAdd, reduceIte, reduceCtorEq, reduceLeDiff]
 have g3' : ¬ (s.size : Int) > 300 := by omega
 rw [if_pos g3] at hL
 cases hp : parsedB s with
 | none =>
  rw [hp] at hL hR
  have z44 : decide ((4 : Int) = 4) = true := rfl
  have y4 : decide ((4 : Int) ≠ 0) = true := rfl
  refine cp n61 hL (SubL.refl _) ?_
  simp only [go_sem, extractA, reduceEqDiff, Nat.reduceBEq, reduceAdd, reduceIte, reduceCtorEq, reduceLeDiff]
  refine cp n64 hR (SubL.refl _) ?_
  simp only [go_sem, extractA, put_eq, builtinA, g3', decide_true, decide_false, un_not, Bool.not_false, y4, z44, reduceEqDiff, Nat.reduceBEq, reduceAdd, reduceIte, reduceCtorEq, reduceLeDiff]
  refine cp n63 hZ (SubL.cons sub_zero (SubL.cons sub_zero (SubL.refl []))) ?_
  simp only [go_sem, reduceEqDiff, Nat.reduceBEq, reduceAdd, reduceIte, reduceCtorEq, reduceLeDiff]
  refine cp n20 known_pc (SubL.refl _) ?_
  simp only [go_sem, Tryz.f14, reduceEqDiff, Nat.reduceBEq, reduceAdd, reduceIte, reduceCtorEq, reduceLeDiff]
 | some l =>
  rw [hp] at hL hR
  have ok := hpok l hp
  have htx := hptx l hp
  have hLn := rLine_pc l ok
  cases hb : isLineB l
  ·rw [hb] at hLn
   simp only [hb, Bool.false_eq_true, if_false] at hL
   refine cp n61 hL (SubL.refl _) ?_
   have z22 : decide ((2 : Int) = 2) = true := rfl
   have y2 : decide ((2 : Int) ≠ 0) = true := rfl
   simp only [go_sem, extractA, reduceEqDiff, Nat.reduceBEq, reduceAdd, reduceIte, reduceCtorEq, reduceLeDiff]
   refine cp n64 hR (SubL.refl _) ?_
   simp only [go_sem, extractA, put_eq, builtinA, g3', decide_true, decide_false, un_not, Bool.not_true, reduceEqDiff, Nat.reduceBEq, reduceAdd, reduceIte, reduceCtorEq, reduceLeDiff]
   refine cp n28 hLn (SubL.refl _) ?_
   simp only [go_sem, un_not, Bool.not_false, y2, z22, decide_true, reduceEqDiff, Nat.reduceBEq, reduceAdd, reduceIte, reduceCtorEq, reduceLeDiff]
   refine cp n63 hZ (SubL.cons sub_zero (SubL.cons sub_zero (SubL.refl []))) ?_
   simp only [go_sem, reduceEqDiff, Nat.reduceBEq, reduceAdd, reduceIte, reduceCtorEq, reduceLeDiff]
   refine cp n20 known_pc (SubL.refl _) ?_
   simp only [go_sem, Tryz.f14, reduceEqDiff, Nat.reduceBEq, reduceAdd, reduceIte, reduceCtorEq, reduceLeDiff]
  ·rw [hb] at hLn
   simp only [hb, if_true] at hL
   refine cp n61 hL (SubL.refl _) ?_
   have hPr := Print_pc l ok
   unfold printA at hPr
   rw [if_pos hb, htx] at hPr
   have eqs := eqS
   have dss : decide (s = s) = true := decide_eq_true rfl
   have hSl := SameLines_self l ok
   simp only [go_sem, extractA, reduceEqDiff, Nat.reduceBEq, reduceAdd, reduceIte, reduceCtorEq, reduceLeDiff]
   refine cp n64 hR (SubL.refl _) ?_
   simp only [go_sem, extractA, put_eq, builtinA, g3', decide_true, decide_false, un_not, Bool.not_true, reduceEqDiff, Nat.reduceBEq, reduceAdd, reduceIte, reduceCtorEq, reduceLeDiff]
   refine cp n28 hLn (SubL.refl _) ?_
   simp only [go_sem, un_not, Bool.not_true, y0, decide_false, reduceEqDiff, Nat.reduceBEq, reduceAdd, reduceIte, reduceCtorEq, reduceLeDiff]
   refine cp n60 hPr (SubL.refl _) ?_
   simp only [go_sem, extractA, z00, decide_true, reduceEqDiff, Nat.reduceBEq, reduceAdd, reduceIte, reduceCtorEq, reduceLeDiff]
   refine cp n63 hSl (SubL.refl _) ?_
   simp only [go_sem, z00, decide_true, eqs, dss, reduceEqDiff, Nat.reduceBEq, reduceAdd, reduceIte, reduceCtorEq, reduceLeDiff]
   refine cp n20 known_pc (SubL.refl _) ?_
   simp only [go_sem, Tryz.f14, reduceEqDiff, Nat.reduceBEq, reduceAdd, reduceIte, reduceCtorEq, reduceLeDiff]
end Go.Av.Fx
end
section
set_option maxRecDepth 100000
namespace Go.Av.Fx
open Go Go.Av Go.Av.Tb Go.Proofs Go.ChangeShapes Go.WideShapes Go.RowKit
def cW (W : World) : Cx :=
 {K := fun b o => W.cell? ⟨b, o, none⟩, μ := fun _ => none, τ := fun _ => none, X := fun _ _ => none
  XO := fun b => match W.heap[b]? with
   | some (.cells _ _ _) => none
   | o => o
  sz := W.heap.size, FZ := ⟨fun _ _ => false, W⟩ }
structure TabOk (W : World) : Prop where
 tab : ∀ i, i < 20 → W.cell? ⟨tabB, i, none⟩ = some (tabV i)
 tsh : ∃ t, W.shape? tabB = some (t, 20)
theorem cW_st {W : World} (h : TabOk W) : StRel (cW W) St.empty W where
 sz := Nat.le_refl _
 tab := h.tab
 tsh := h.tsh
 fr := Frm.refl W
 K := fun _ _ _ e => e
 X := fun _ _ _ e => by cases e
 XO := fun b ob e => by
  simp only [cW] at e
  split at e
  ·cases e
  ·rename_i hn
   exact ⟨e, fun cs t f he => hn cs t f (by rw [e, he])⟩
 F := fun _ _ e => by cases e
 dom := fun _ _ e => by cases e
 tdom := fun _ _ e => by cases e
 blk := fun i B e => by simp [St.empty] at e
 inj := fun i j Bi Bj n e => by simp [St.empty] at e
 tok := fun k hk => by cases hk
 tinj := fun k k' b lo hi lo' hi' hk => by cases hk
 tblk := fun k i b lo hi B hk => by cases hk
structure Keep (W W' : World) : Prop where
 os : W'.os = W.os
 out : W'.output = W.output
 block : ∀ k, k < W.heap.size → W'.heap[k]? = W.heap[k]?
theorem keep_of {W W' : World} {c' : Cx} {S' : St} (hle : (cW W).le c') (h : StRel c' S' W') : Keep W W' := by
 have hfr : Frm W W' := by have := h.fr; rw [hle.FZ] at this; exact this
 refine ⟨hfr.os, hfr.out, fun k hk => ?_⟩
 have hob : W.heap[k]? = some W.heap[k] := Array.getElem?_eq_getElem hk
 rw [hob]
 cases ho : W.heap[k] with
 | cells cs t fr =>
  rw [ho] at hob
  obtain ⟨cs', e1, e2⟩ := hfr.blk k cs t fr hob
  rw [e1]
  congr 2
  apply Array.ext
  ·exact e2
  ·intro j h1 h2
   have hc : W.cell? ⟨k, j, none⟩ = some cs[j] := by
    unfold World.cell?
    simp [hob, h2]
   have := h.K k j _ (hle.K k j _ hc)
   unfold World.cell? at this
   simp [e1, h1] at this
   exact this
 | _ =>
  rw [ho] at hob
  exact (h.XO k _ (by rw [hle.XO]; simp only [cW, hob])).1
theorem Keep.keptBut {W W' : World} (h : Keep W W') (may : MemPlace → Prop) : W.keptBut W' may := by
 refine ⟨h.os, h.out, fun i hi => ?_⟩
 rw [h.block i hi, Array.getElem?_eq_getElem hi]
 cases W.heap[i] with
 | cells c t fr => exact ⟨rfl, rfl, rfl, fun _ _ => rfl⟩
 | map es clock => exact .inr ⟨rfl, rfl⟩
 | _ => rfl
theorem Keep.same {W W' : World} (h : Keep W W') {p : MemPlace} (hp : p.block < W.heap.size) : W.sameAt W' p := by
 cases p with
 | cell b o => exact World.cell?_of_block (w := W) (h.block b hp)
 | map b => exact h.block b hp
theorem law_calls {f : FuncId} {args : List AV} {W : World} {vs : List Value} (h : PC Tryz.prog f args (.pure (.bool true))) (ht : TabOk W) (hl : LRel (cW W) args vs) :
  Calls Tryz.prog f vs.toArray W fun e W' => e = .returned (.bool true) ∧ Keep W W' := by
 refine (h (cW W) St.empty W vs (cW_st ht) hl).mono ?_
 rintro e W' ⟨x, rfl, c', hle, _, _, hst, hv⟩
 refine ⟨?_, keep_of hle hst⟩
 cases hv; rfl
end Go.Av.Fx
end
section
namespace Go.Proofs.YtlagjjpbknpdkaaGreatDoor
open Go Go.Av Go.ChangeShapes Go.WideShapes Go.ChangeAt Go.RowKit
set_option maxRecDepth 100000
theorem own : ownKnob Tryz.prog.godebug = none := by kernel_rfl
def tabs : List (String × DataW Unit) := [("math/bits.deBruijn32tab", Rows.laid_math_bits_deBruijn32tab), ("math/bits.deBruijn64tab", Rows.laid_math_bits_deBruijn64tab), ("internal/strconv.uint64pow10", Rows.laid_internal_strconv_uint64pow10), ("unicode/utf8.acceptRanges", Rows.laid_unicode_utf8_acceptRanges), ("unicode/utf8.first", Rows.laid_unicode_utf8_first)]
theorem pow_data : (Rows.laid_internal_strconv_uint64pow10 : DataW Unit) = Lib.tabData .u64 Lib.pow10Tab := by kernel_rfl
theorem pow_name : Tryz.prog.globalNamed "internal/strconv.uint64pow10" = some 0 := by kernel_rfl
theorem pow_type : (Tryz.prog.globals[0]?).map (·.type) = some 232 := by kernel_rfl
theorem tab_ok {W : World} (h : laidMetH Tryz.prog tabs W) : Go.Av.Fx.TabOk W := by
 rw [MakeChecks.laidMetH_plain _ _ _ (by kernel_rfl)] at h
 obtain ⟨ps, ⟨_, _, _, _, _, _, _, _, _, _, ⟨_, _, _, _, _, _, _, _, _, _, ⟨g, t, cs, fuel, p, q, hg, ht, hv, hd, _, _⟩, _⟩, _⟩, _, _⟩ := h
 obtain rfl := Option.some.inj (pow_name.symm.trans hg)
 obtain rfl := Option.some.inj (pow_type.symm.trans ht)
 rw [pow_data] at hd
 have hcs := Lib.cells_of_tab (P := Tryz.prog) (t := 232) (e := 215) (n := 20) (k := .u64) (by kernel_rfl) (by kernel_rfl) (by kernel_rfl) (by kernel_rfl) hd
 have hlen : Lib.pow10Tab.length = 20 := by simp [Lib.pow10Tab]
 have hTab : Lib.TabIs Tryz.prog W "internal/strconv.uint64pow10" .u64 Lib.pow10Tab := by
  unfold Lib.TabIs
  rw [hv, ← hcs]
 refine ⟨fun i hi => ?_, ?_⟩
 ·have := hTab.cell pow_name i (by rw [hlen]; exact hi)
  rw [show (Lib.pow10Tab.getD i 0 : Int) = ((10 ^ i : Nat) : Int) by
   unfold Lib.pow10Tab
   rw [List.getD_eq_getElem?_getD, List.getElem?_map, List.getElem?_range hi]; rfl] at this
  exact this
 ·unfold World.var? at hv
  rw [pow_name, Option.bind_some] at hv
  split at hv
  ·rename_i cs' t' fr e
   cases hv
   refine ⟨t', ?_⟩
   unfold World.shape?
   show (match W.heap[0]? with
    | some (.cells c elem _) => some (elem, c.size)
    | _ => none) = _
   rw [e]
   have : cs.size = 20 := by
    have := congrArg List.length hcs
    simpa [hlen] using this
   simp [this]
  ·cases hv
end Go.Proofs.YtlagjjpbknpdkaaGreatDoor
end
section
set_option maxRecDepth 100000
namespace Go.Av.Fx
open Go Go.Av Go.Av.Tb Go.Proofs Go.ChangeShapes Go.WideShapes Go.RowKit
end Go.Av.Fx
end
