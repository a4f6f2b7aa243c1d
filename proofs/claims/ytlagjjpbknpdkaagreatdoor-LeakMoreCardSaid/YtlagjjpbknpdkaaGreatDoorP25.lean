/- Part 25 of the proof. -/
import Derived.Test.YtlagjjpbknpdkaaGreatDoorP24
import Derived.Test.YtlagjjpbknpdkaaGreatDoorP20
import Derived.Test.YtlagjjpbknpdkaaGreatDoorP23
import Derived.Test.YtlagjjpbknpdkaaGreatDoorP14
import Derived.Test.YtlagjjpbknpdkaaGreatDoorRows
import Derived.ProofKit
import Derived.LaidMore
import Derived.OpenShut
import Derived.Deep.Slices
import Derived.Stop.Joined
import Derived.ChangeOld
import Derived.SizedLaws
set_option linter.all false
set_option linter.unusedVariables false
set_option linter.unusedSimpArgs false
set_option linter.unusedSectionVars false
open Nat (reduceEqDiff reduceAdd reduceLeDiff)
section
namespace Go.Av.Fx
open Go Go.Av Go.Av.Tb Go.Proofs
theorem Sub.map {α : Type} (f g : α → AV) (h : ∀ a, Sub (f a) (g a)) (L : List α) (n : Nat) (t : Tail) : Sub (.slice (L.map f) n t) (.slice (L.map g) n .unk) := by
 intro c x hx
 generalize hl : L.map f = l at hx
 cases hx with
 | slice _ _ _ b off cap vs hc hk hr he ht =>
  subst hl
  refine .slice _ n .unk b off cap vs hc (fun j hj => hk j (by simpa using hj)) (fun j y hy => ?_) (fun e => by cases e) (fun k e => by cases e)
  rw [List.getElem?_map] at hy
  cases e : L[j]? with
  | none => rw [e] at hy; cases hy
  | some a =>
   rw [e] at hy; cases hy
   exact h a c _ (hr j (f a) (by rw [List.getElem?_map, e]; rfl))
 | sliceNil _ ht =>
  have : L = [] := by simpa using hl
  subst this
  exact .sliceNil .unk (fun k e => by cases e)
theorem askM : askE lineM true = 0 := by simp [askE, kM_line, kM_poss]
theorem okM : okLine lineM := ⟨by decide, by decide⟩
theorem okN : okLine lineN := ⟨by decide, by decide⟩
theorem q1 : PC Tryz.prog 41 [lineA lineN] (.pure (.tuple [.bool false, .int .i64 0])) := by
 have := Possible_pc lineN okN
 rw [kN_line, kN_poss] at this; exact this
theorem q2 : PC Tryz.prog 22 [lineA lineM] (.pure (.tuple [sll [[0], [1], [2]], .int .i64 0])) := by
 have := Sets_pc lineM okM
 unfold setsA at this
 rw [if_pos askM, kM_sets] at this; exact this
theorem q3 : PC Tryz.prog 21 [lineA lineM] (.pure (.tuple [sl [2, 2, 2], .int .i64 0])) := by
 have := Known_pc lineM okM
 unfold knownA at this
 rw [if_pos askM, show lineM.gives.length = 3 from rfl, kM_words] at this; exact this
theorem q4 : PC Tryz.prog 34 [lineA lineM, .int .i64 1] (.pure (.tuple [spA ⟨78, 94⟩, .int .i64 0])) := by
 have := Flows_pc lineM okM 1
 unfold flowsA at this
 rw [show inB 1 0 lineM.gives.length = true from rfl, if_pos askM, show Int.toNat 1 = 1 from rfl, kM_flows] at this; exact this
theorem q5 : PC Tryz.prog 35 [lineA lineM, .int .i64 0, .int .i64 3] (.pure (.tuple [spA ⟨8, 15⟩, .int .i64 0])) := by
 have := Lost_pc lineM okM 0 3
 unfold lostA at this
 rw [show fineLost lineM 0 3 = true from rfl, if_pos askM, show Int.toNat 0 = 0 from rfl, show Int.toNat 3 = 3 from rfl, kM_lost] at this; exact this
theorem q6 : PC Tryz.prog 30 [lineA lineM, sl [1]] (.pure (.tuple [spA ⟨8, 15⟩, .int .i64 0])) := by
 have := Explains_pc lineM okM [1] (by decide)
 unfold explA at this
 rw [if_pos ⟨kM_line, by decide⟩, if_pos (show isSetB lineM [1] = true by decide +kernel)] at this
 have h := kM_expl
 cases hx : explM lineM [1] with
 | none => rw [hx] at h; cases h
 | some W =>
  rw [hx] at h this
  have h : lostS lineM W 0 3 = ⟨8, 15⟩ := by simpa using h
  simp only [show lineM.gives.length = 3 from rfl, h] at this
  exact this
theorem q7 : PC Tryz.prog 43 [lineA lineM, .int .i64 2] (.pure (.tuple [.int .i64 1, .int .i64 2, .int .i64 0])) := by
 have := Next_pc lineM okM 2
 unfold nextA at this
 rw [show inB 2 0 20 = true from rfl, if_pos askM, kM_next] at this; exact this
theorem q8 : PC Tryz.prog 47 [lineA lineM, sl [1, 2], .int .i64 2] (.pure (.tuple [.bool true, .int .i64 0])) := by
 have := Tells_pc lineM okM [1, 2] (by decide) 2
 unfold tellsA at this
 rw [show fineTells lineM [1, 2] 2 = true by decide +kernel, if_pos askM, kM_tells] at this; exact this
theorem q9 : PC Tryz.prog 48 [lineA lineM, .int .i64 2] (.pure (.tuple [sl [1, 2], .int .i64 0])) := by
 have := Plan_pc lineM okM 2
 unfold planA at this
 rw [show inB 2 0 20 = true from rfl, if_pos askM, kM_plan] at this; exact this
theorem q10 : PC Tryz.prog 53 [lineA lineN] (.pure (.tuple [.int .i64 0, .int .i64 2, .int .i64 0])) := by
 have := Clash_pc lineN okN
 unfold clashA at this
 rw [if_pos kN_line, kN_clash] at this; exact this
theorem q11 : PC Tryz.prog 54 [lineA lineN] (.pure (.tuple [sl [0], .int .i64 0])) := by
 have := Wrong_pc lineN okN
 unfold wrongA at this
 rw [if_pos kN_line, kN_wrong] at this; exact this
theorem q12 : PC Tryz.prog 61 [.str exT] (.pure (.tuple [lineA lineT, .int .i64 0])) := by
 have := Read_pc exT (by decide)
 unfold readA at this
 rw [if_pos (by decide), kT] at this
 simp only [if_pos kT_line] at this
 exact this
theorem q13 : PC Tryz.prog 62 [lineA lineT] (.pure (.str exT)) := by
 have := rPrint_pc lineT (isLine_iff.1 kT_line).plain
 rw [kT_text] at this; exact this
@[go_sem] theorem ne42a : binA T .neq 42 (.agg [.int .i64 78, .int .i64 94]) (.agg [.int .i64 78, .int .i64 94]) = some (.bool false) := rfl
@[go_sem] theorem ne42b : binA T .neq 42 (.agg [.int .i64 8, .int .i64 15]) (.agg [.int .i64 8, .int .i64 15]) = some (.bool false) := rfl
set_option maxRecDepth 100000 in
theorem known_pc : PC Tryz.prog 20 [] (.pure (.bool true)) := by
 refine PC.of_empty (AC.run (E_ok _) mix Tryz.func20 m20 rfl rfl rfl (Nat.le_of_ble_eq_true rfl) ?_) rfl rfl
 simp only [go_sem, reduceEqDiff, Nat.reduceBEq, reduceAdd, reduceIte, reduceCtorEq, reduceLeDiff]
 refine cp n73 N_pc (SubL.refl _) ?_
 simp only [go_sem, reduceEqDiff, Nat.reduceBEq, reduceAdd, reduceIte, reduceCtorEq, reduceLeDiff]
 refine cp n41 q1 (SubL.refl _) ?_
 simp only [go_sem, extractA, reduceEqDiff, Nat.reduceBEq, reduceAdd, reduceIte, reduceCtorEq, reduceLeDiff]
 refine cp n74 M_pc (SubL.refl _) ?_
 simp only [go_sem, reduceEqDiff, Nat.reduceBEq, reduceAdd, reduceIte, reduceCtorEq, reduceLeDiff]
 refine cp n22 q2 (SubL.refl _) ?_
 simp only [go_sem, extractA, reduceEqDiff, Nat.reduceBEq, reduceAdd, reduceIte, reduceCtorEq, reduceLeDiff]
 refine cp n74 M_pc (SubL.refl _) ?_
 simp only [go_sem, reduceEqDiff, Nat.reduceBEq, reduceAdd, reduceIte, reduceCtorEq, reduceLeDiff]
 refine cp n21 q3 (SubL.refl _) ?_
 simp only [go_sem, extractA, reduceEqDiff, Nat.reduceBEq, reduceAdd, reduceIte, reduceCtorEq, reduceLeDiff]
 refine cp n74 M_pc (SubL.refl _) ?_
 simp only [go_sem, reduceEqDiff, Nat.reduceBEq, reduceAdd, reduceIte, reduceCtorEq, reduceLeDiff]
 refine cp n34 q4 (SubL.refl _) ?_
 simp only [go_sem, extractA, put_eq, reduceEqDiff, Nat.reduceBEq, reduceAdd, reduceIte, reduceCtorEq, reduceLeDiff]
 refine cp n74 M_pc (SubL.refl _) ?_
 simp only [go_sem, reduceEqDiff, Nat.reduceBEq, reduceAdd, reduceIte, reduceCtorEq, reduceLeDiff]
 refine cp n35 q5 (SubL.refl _) ?_
 simp only [go_sem, extractA, put_eq, reduceEqDiff, Nat.reduceBEq, reduceAdd, reduceIte, reduceCtorEq, reduceLeDiff]
 refine cp n74 M_pc (SubL.refl _) ?_
 simp only [go_sem, reduceEqDiff, Nat.reduceBEq, reduceAdd, reduceIte, reduceCtorEq, reduceLeDiff]
 refine cp n30 q6 (SubL.cons (Sub.refl _) (SubL.cons (Sub.unk _ _ _) (SubL.refl _))) ?_
 simp only [go_sem, extractA, put_eq, reduceEqDiff, Nat.reduceBEq, reduceAdd, reduceIte, reduceCtorEq, reduceLeDiff]
 refine cp n74 M_pc (SubL.refl _) ?_
 simp only [go_sem, reduceEqDiff, Nat.reduceBEq, reduceAdd, reduceIte, reduceCtorEq, reduceLeDiff]
 refine cp n43 q7 (SubL.refl _) ?_
 simp only [go_sem, extractA, reduceEqDiff, Nat.reduceBEq, reduceAdd, reduceIte, reduceCtorEq, reduceLeDiff]
 refine cp n74 M_pc (SubL.refl _) ?_
 simp only [go_sem, reduceEqDiff, Nat.reduceBEq, reduceAdd, reduceIte, reduceCtorEq, reduceLeDiff]
 refine cp n47 q8 (SubL.cons (Sub.refl _) (SubL.cons (Sub.unk _ _ _) (SubL.refl _))) ?_
 simp only [go_sem, extractA, reduceEqDiff, Nat.reduceBEq, reduceAdd, reduceIte, reduceCtorEq, reduceLeDiff]
 refine cp n74 M_pc (SubL.refl _) ?_
 simp only [go_sem, reduceEqDiff, Nat.reduceBEq, reduceAdd, reduceIte, reduceCtorEq, reduceLeDiff]
 refine cp n48 q9 (SubL.refl _) ?_
 simp only [go_sem, extractA, reduceEqDiff, Nat.reduceBEq, reduceAdd, reduceIte, reduceCtorEq, reduceLeDiff]
 refine cp n73 N_pc (SubL.refl _) ?_
 simp only [go_sem, reduceEqDiff, Nat.reduceBEq, reduceAdd, reduceIte, reduceCtorEq, reduceLeDiff]
 refine cp n53 q10 (SubL.refl _) ?_
 simp only [go_sem, extractA, reduceEqDiff, Nat.reduceBEq, reduceAdd, reduceIte, reduceCtorEq, reduceLeDiff]
 refine cp n73 N_pc (SubL.refl _) ?_
 simp only [go_sem, reduceEqDiff, Nat.reduceBEq, reduceAdd, reduceIte, reduceCtorEq, reduceLeDiff]
 refine cp n54 q11 (SubL.refl _) ?_
 simp only [go_sem, extractA, reduceEqDiff, Nat.reduceBEq, reduceAdd, reduceIte, reduceCtorEq, reduceLeDiff]
 refine cp n61 q12 (SubL.refl _) ?_
 have z0 : ¬ ((0 : Int) ≠ 0) := by decide
 simp only [go_sem, extractA, put_eq, z0, decide_false, reduceEqDiff, Nat.reduceBEq, reduceAdd, reduceIte, reduceCtorEq, reduceLeDiff]
 refine cp n26 (SameSets_pc [[0], [1], [2]] [[0], [1], [2]] (by decide) (by decide) (by decide) (by decide)) (SubL.cons (Sub.refl _) (SubL.cons (Sub.map (fun s => .slice (ints s) s.length .exact) sl (fun s => Sub.unk _ _ _) [[0], [1], [2]] 3 .exact) (SubL.refl _))) ?_
 rw [decide_eq_true rfl]
 simp only [go_sem, un_not, Bool.not_true, reduceEqDiff, Nat.reduceBEq, reduceAdd, reduceIte, reduceCtorEq, reduceLeDiff]
 refine cp n24 (SameWords_pc [2, 2, 2] [2, 2, 2] (by decide) (by decide)) (SubL.cons (Sub.refl _) (SubL.cons (Sub.unk _ _ _) (SubL.refl _))) ?_
 rw [decide_eq_true rfl]
 have z1 : decide ((1 : Int) = 1) = true := rfl
 have z2 : decide ((2 : Int) = 2) = true := rfl
 have z3 : decide ((0 : Int) = 0) = true := rfl
 simp only [go_sem, un_not, Bool.not_true, put_eq, z1, z2, z3, decide_true, reduceEqDiff, Nat.reduceBEq, reduceAdd, reduceIte, reduceCtorEq, reduceLeDiff]
 refine cp n50 (Same_pc [1, 2] [1, 2] (by decide) (by decide)) (SubL.cons (Sub.refl _) (SubL.cons (Sub.unk _ _ _) (SubL.refl _))) ?_
 rw [decide_eq_true rfl]
 simp only [go_sem, un_not, Bool.not_true, put_eq, z1, z2, z3, decide_true, reduceEqDiff, Nat.reduceBEq, reduceAdd, reduceIte, reduceCtorEq, reduceLeDiff]
 refine cp n50 (Same_pc [0] [0] (by decide) (by decide)) (SubL.cons (Sub.refl _) (SubL.cons (Sub.unk _ _ _) (SubL.refl _))) ?_
 rw [decide_eq_true rfl]
 simp only [go_sem, un_not, Bool.not_true, put_eq, z1, z2, z3, decide_true, reduceEqDiff, Nat.reduceBEq, reduceAdd, reduceIte, reduceCtorEq, reduceLeDiff]
 refine cp n62 q13 (SubL.refl _) ?_
 have z4 : binA T .eql 9 (.str exT) (.str ⟨#[108, 105, 110, 101, 32, 49, 32, 49, 32, 48, 10, 115, 116, 114, 101, 116, 99, 104, 32, 48, 10, 101, 110, 100, 32, 48, 53, 49, 10]⟩) = some (.bool true) := (show binA T .eql 9 (.str exT) (.str exT) = some (.bool true) by rw [eqS, decide_eq_true rfl])
 simp only [go_sem, z4, Tryz.f20, reduceEqDiff, Nat.reduceBEq, reduceAdd, reduceIte, reduceCtorEq, reduceLeDiff]
end Go.Av.Fx
end
section
namespace Go.Av.Fx
open Go Go.Av Go.Proofs
open Go.Fw (Sq ent Bd Mat Tells Good)
structure Spn (P : (Nat → Int) → Prop) (g : (Nat → Int) → Int) (sp : Span) : Prop where
 bd : ∀ f, P f → sp.low ≤ g f ∧ g f ≤ sp.high
 lo : ∃ f, P f ∧ g f = sp.low
 hi : ∃ f, P f ∧ g f = sp.high
theorem Spn.imp {P Q : (Nat → Int) → Prop} {g : (Nat → Int) → Int} {a : Span} (h : Spn P g a) (e : ∀ f, P f ↔ Q f) : Spn Q g a := by
 obtain ⟨f1, p1, e1⟩ := h.lo
 obtain ⟨f2, p2, e2⟩ := h.hi
 exact ⟨fun f hf => h.bd f ((e f).2 hf), ⟨f1, (e _).1 p1, e1⟩, ⟨f2, (e _).1 p2, e2⟩⟩
theorem Spn.join {P Q : (Nat → Int) → Prop} {g : (Nat → Int) → Int} {a b : Span} (h : Spn P g a) (h' : Spn Q g b) : Spn (fun f => P f ∨ Q f) g (joinS a b) := by
 obtain ⟨f1, p1, e1⟩ := h.lo
 obtain ⟨f2, p2, e2⟩ := h.hi
 obtain ⟨f3, p3, e3⟩ := h'.lo
 obtain ⟨f4, p4, e4⟩ := h'.hi
 unfold joinS
 refine ⟨?_, ?_, ?_⟩
 ·rintro f (hf | hf)
  ·have := h.bd f hf
   constructor
   ·show (if b.low < a.low then b.low else a.low) ≤ _; split <;> omega
   ·show _ ≤ (if b.high > a.high then b.high else a.high); split <;> omega
  ·have := h'.bd f hf
   constructor
   ·show (if b.low < a.low then b.low else a.low) ≤ _; split <;> omega
   ·show _ ≤ (if b.high > a.high then b.high else a.high); split <;> omega
 ·by_cases c : b.low < a.low
  ·exact ⟨f3, .inr p3, by show _ = if b.low < a.low then b.low else a.low; rw [if_pos c]; exact e3⟩
  ·exact ⟨f1, .inl p1, by show _ = if b.low < a.low then b.low else a.low; rw [if_neg c]; exact e1⟩
 ·by_cases c : b.high > a.high
  ·exact ⟨f4, .inr p4, by show _ = if b.high > a.high then b.high else a.high; rw [if_pos c]; exact e4⟩
  ·exact ⟨f2, .inl p2, by show _ = if b.high > a.high then b.high else a.high; rw [if_neg c]; exact e2⟩
theorem Spn.fold {α : Type} {P : α → (Nat → Int) → Prop} {g : (Nat → Int) → Int} {f : α → Span} : ∀ (L : List α) {Q : (Nat → Int) → Prop} {o : Span}, Spn Q g o → (∀ t ∈ L, Spn (P t) g (f t)) →
  Spn (fun x => Q x ∨ ∃ t, t ∈ L ∧ P t x) g (L.foldl (fun o t => joinS o (f t)) o)
 | [], Q, o, h, _ => h.imp fun x => ⟨.inl, fun hx => hx.elim id fun ⟨t, ht, _⟩ => by cases ht⟩
 | t :: L, Q, o, h, hL => by
  refine (Spn.fold L (h.join (hL t List.mem_cons_self)) fun t ht => hL t (List.mem_cons_of_mem _ ht)).imp fun x => ?_
  constructor
  ·rintro ((h | h) | ⟨u, hu, h⟩)
   ·exact .inl h
   ·exact .inr ⟨t, List.mem_cons_self, h⟩
   ·exact .inr ⟨u, List.mem_cons_of_mem _ hu, h⟩
  ·rintro (h | ⟨u, hu, h⟩)
   ·exact .inl (.inl h)
   ·rcases List.mem_cons.1 hu with rfl | hu
    ·exact .inl (.inr h)
    ·exact .inr ⟨u, hu, h⟩
theorem over_spn {P : Theft → (Nat → Int) → Prop} {g : (Nat → Int) → Int} {f : Theft → Span} {L : List Theft} (hne : 0 < L.length) (h : ∀ t ∈ L, Spn (P t) g (f t)) : Spn (fun x => ∃ t, t ∈ L ∧ P t x) g (overS L f) := by
 cases L with
 | nil => cases hne
 | cons t L =>
  refine (Spn.fold (t :: L) (h t List.mem_cons_self) h).imp fun x => ?_
  exact ⟨fun hx => hx.elim (fun hx => ⟨t, List.mem_cons_self, hx⟩) id, .inr⟩
theorem span_eq {l : LLine} (h : Lw l) {s : List Int} {W : Mat} (hW : explM l s = some W) {a b : Nat} (ha : a < l.gives.length + 2) (hb : b < l.gives.length + 2) : spanM W a b = ⟨-ent W b a, ent W a b⟩ := by
 have := expl_bd h hW hb ha
 unfold spanM
 rw [w64_eq (by omega), Int.zero_sub]
theorem flow_spn {l : LLine} (h : Lw l) {s : List Int} {W : Mat} (hW : explM l s = some W) {p : Nat} (hp : p ≤ l.gives.length) : Spn (Fl l s) (fun f => f p) (spanM W (l.gives.length + 1) p) := by
 rw [span_eq h hW (by omega) (by omega)]
 have h1 := expl_mx h hW (a := l.gives.length + 1) (b := p) (by omega) (by omega)
 have h2 := expl_mx h hW (a := p) (b := l.gives.length + 1) (by omega) (by omega)
 have e1 : ∀ f, ex l f p = f p := fun f => by unfold ex; rw [if_pos hp]
 have e2 : ∀ f, ex l f (l.gives.length + 1) = 0 := fun f => by unfold ex; rw [if_neg (by omega)]
 simp only [e1, e2] at h1 h2
 obtain ⟨f1, p1, q1⟩ := h1.2
 obtain ⟨f2, p2, q2⟩ := h2.2
 refine ⟨fun f hf => ?_, ⟨f2, p2, ?_⟩, ⟨f1, p1, ?_⟩⟩
 ·have := h1.1 f hf; have := h2.1 f hf
  simp only at *; omega
 ·simp only at *; omega
 ·simp only at *; omega
def Fa (l : LLine) (f : Nat → Int) : Prop := ∃ s, s ∈ setsL l.gives.length ∧ (s.length : Int) ≤ l.taps ∧ Fl l s f
theorem fa_iff {l : LLine} (h : Lw l) (f : Nat → Int) : (∃ t, t ∈ theftsL l ∧ Fl l t.1 f) ↔ Fa l f := by
 constructor
 ·rintro ⟨t, ht, hf⟩
  obtain ⟨h1, h2⟩ := mem_thefts.1 ht
  exact ⟨t.1, h1, ((expl_iff h t.1).1 (by rw [h2]; rfl)).1, hf⟩
 ·rintro ⟨s, hs, ht, hf⟩
  have := (expl_iff h s).2 ⟨ht, f, hf⟩
  obtain ⟨W, hW⟩ := Option.isSome_iff_exists.1 this
  exact ⟨(s, W), mem_thefts.2 ⟨hs, hW⟩, hf⟩
theorem poss_len {l : LLine} : possB l = true ↔ 0 < (theftsL l).length := by
 unfold possB; rw [decide_eq_true_iff]
theorem flows_spn {l : LLine} (h : Lw l) (hp : possB l = true) {p : Nat} (hpt : p ≤ l.gives.length) : Spn (Fa l) (fun f => f p) (flowsS l p) :=
 (over_spn (P := fun t => Fl l t.1) (poss_len.1 hp) fun t ht => flow_spn h (mem_thefts.1 ht).2 hpt).imp (fa_iff h)
end Go.Av.Fx
end
section
namespace Go.Av.Fx
open Go Go.Av Go.Av.Tb Go.Proofs
end Go.Av.Fx
end
section
namespace Go.Av.Fx
open Go Go.Av Go.Proofs
open Go.Fw (Sq ent Bd Mat Tells Good)
theorem mem_setsL {m : Nat} {s : List Int} : s ∈ setsL m ↔ s = [] ∨ (∃ i : Nat, i < m ∧ s = [(i : Int)]) ∨ ∃ i k : Nat, i < k ∧ k < m ∧ s = [(i : Int), (k : Int)] := by
 unfold setsL ones twos twosAt
 simp only [List.mem_cons, List.mem_append, List.mem_map, List.mem_range, List.mem_flatMap]
 constructor
 ·rintro (h | ⟨i, hi, h⟩ | ⟨i, hi, j, hj, h⟩)
  ·exact .inl h
  ·exact .inr (.inl ⟨i, hi, h.symm⟩)
  ·exact .inr (.inr ⟨i, i + 1 + j, by omega, by omega, h.symm⟩)
 ·rintro (h | ⟨i, hi, h⟩ | ⟨i, k, hi, hk, h⟩)
  ·exact .inl h
  ·exact .inr (.inl ⟨i, hi, h.symm⟩)
  ·exact .inr (.inr ⟨i, by omega, k - (i + 1), by omega, by rw [h, show i + 1 + (k - (i + 1)) = k by omega]⟩)
theorem setsL_le2 {m : Nat} {s : List Int} (h : s ∈ setsL m) : s.length ≤ 2 := by
 rcases mem_setsL.1 h with rfl | ⟨i, _, rfl⟩ | ⟨i, k, _, _, rfl⟩ <;> simp
end Go.Av.Fx
end
section
namespace Go.Av.Fx
open Go Go.Av Go.Proofs
open Go.Fw (Sq ent Bd Mat Tells Good)
def moreL (l : LLine) (c : Cnt) : LLine := { l with counts := l.counts ++ [c] }
def tapsL (l : LLine) (k : Int) : LLine := { l with taps := k }
theorem more_fl {l : LLine} {c : Cnt} {s : List Int} {f : Nat → Int} : Fl (moreL l c) s f ↔ Fl l s f ∧ c.low ≤ f c.point.toNat ∧ f c.point.toNat ≤ c.high := by
 constructor
 ·intro h
  exact ⟨⟨h.pos, h.top, h.step, fun d hd => h.cnt d (List.mem_append_left _ hd)⟩, h.cnt c (List.mem_append_right _ List.mem_cons_self)⟩
 ·rintro ⟨h, hc⟩
  refine ⟨h.pos, h.top, h.step, fun d hd => ?_⟩
  rcases List.mem_append.1 hd with hd | hd
  ·exact h.cnt d hd
  ·simp at hd; subst hd; exact hc
theorem more_fa {l : LLine} {c : Cnt} {f : Nat → Int} : Fa (moreL l c) f ↔ Fa l f ∧ c.low ≤ f c.point.toNat ∧ f c.point.toNat ≤ c.high := by
 unfold Fa
 constructor
 ·rintro ⟨s, h1, h2, h3⟩
  obtain ⟨h3, h4⟩ := more_fl.1 h3
  exact ⟨⟨s, h1, h2, h3⟩, h4⟩
 ·rintro ⟨⟨s, h1, h2, h3⟩, h4⟩
  exact ⟨s, h1, h2, more_fl.2 ⟨h3, h4⟩⟩
theorem filter_mono {α : Type} (p q : α → Bool) (h : ∀ x, p x = true → q x = true) : ∀ L : List α, (L.filter p).length ≤ (L.filter q).length
 | [] => Nat.le_refl _
 | x :: L => by
  have ih := filter_mono p q h L
  rw [List.filter_cons, List.filter_cons]
  by_cases g : p x = true
  ·rw [if_pos g, if_pos (h x g)]; simpa using ih
  ·rw [if_neg g]
   split
   ·rw [List.length_cons]; omega
   ·exact ih
theorem sets_mono {l l' : LLine} (h : Lw l) (h' : Lw l') (hg : l'.gives.length = l.gives.length) (hs : ∀ s, (explM l s).isSome = true → (explM l' s).isSome = true) : (∀ s ∈ setsOut l, s ∈ setsOut l') ∧ (setsOut l).length ≤ (setsOut l').length := by
 rw [setsOut_eq, setsOut_eq, hg]
 exact ⟨fun s hs' => by rw [List.mem_filter] at hs' ⊢; exact ⟨hs'.1, hs s hs'.2⟩, filter_mono _ _ hs _⟩
theorem taps_mono {l : LLine} (h : Lw l) {k : Int} (h' : Lw (tapsL l k)) (hk : l.taps ≤ k) : (∀ s ∈ setsOut l, s ∈ setsOut (tapsL l k)) ∧ (setsOut l).length ≤ (setsOut (tapsL l k)).length :=
 sets_mono h h' rfl fun s hs => by
  obtain ⟨h1, f, hf⟩ := (expl_iff h s).1 hs
  exact (expl_iff h' s).2 ⟨by show _ ≤ k; omega, f, ⟨hf.pos, hf.top, hf.step, hf.cnt⟩⟩
theorem more_mono {l : LLine} (h : Lw l) {c : Cnt} (h' : Lw (moreL l c)) : (∀ s ∈ setsOut (moreL l c), s ∈ setsOut l) ∧ (setsOut (moreL l c)).length ≤ (setsOut l).length :=
 sets_mono h' h rfl fun s hs => by
  obtain ⟨h1, f, hf⟩ := (expl_iff h' s).1 hs
  exact (expl_iff h s).2 ⟨h1, f, (more_fl.1 hf).1⟩
theorem poss_out {l : LLine} : possB l = true ↔ 0 < (setsOut l).length := by
 rw [setsOut_len]; exact poss_len
theorem more_flows {l : LLine} (h : Lw l) {c : Cnt} (h' : Lw (moreL l c)) (hp : possB l = true) (hp' : possB (moreL l c) = true) {p : Nat} (hpt : p ≤ l.gives.length) :
  (flowsS l p).low ≤ (flowsS (moreL l c) p).low ∧ (flowsS (moreL l c) p).high ≤ (flowsS l p).high := by
 have h1 := flows_spn h hp hpt
 have h2 := flows_spn h' hp' (p := p) hpt
 obtain ⟨f1, p1, e1⟩ := h2.lo
 obtain ⟨f2, p2, e2⟩ := h2.hi
 have a1 := h1.bd f1 (more_fa.1 p1).1
 have a2 := h1.bd f2 (more_fa.1 p2).1
 omega
theorem sets_100 {l : LLine} (h : Lw l) : (setsOut l).length ≤ 100 := by
 rw [setsOut_eq]
 refine Nat.le_trans (List.length_filter_le _ _) ?_
 have := h.pts
 match hm : l.gives.length, this.2 with
 | 0, _ => decide
 | 1, _ => decide
 | 2, _ => decide
 | 3, _ => decide
 | 4, _ => decide
 | 5, _ => decide
end Go.Av.Fx
end
section
namespace Go.Av.Fx
open Go Go.Av Go.Av.Tb Go.Proofs
end Go.Av.Fx
end
section
namespace Go.Av.Fx
open Go Go.Av Go.Av.Tb Go.Proofs
end Go.Av.Fx
end
section
namespace Go.Av.Fx
open Go Go.Av Go.Av.Tb Go.Proofs
end Go.Av.Fx
end
section
namespace Go.Av.Fx
open Go Go.Av Go.Av.Tb Go.Proofs
theorem sets_ok {l : LLine} (ok : okLine l) (h : isLineB l = true) (hp : possB l = true) : PC Tryz.prog 22 [lineA l] (.pure (.tuple [sll (setsOut l), .int .i64 0])) := by
 have hk := Sets_pc l ok
 have he : askE l true = 0 := by simp [askE, h, hp]
 unfold setsA at hk
 rw [if_pos he] at hk
 exact hk
theorem flows_ok {l : LLine} (ok : okLine l) (h : isLineB l = true) (hp : possB l = true) {p : Nat} (hpt : p ≤ l.gives.length) : PC Tryz.prog 34 [lineA l, .int .i64 p] (.pure (.tuple [spA (flowsS l p), .int .i64 0])) := by
 have hk := Flows_pc l ok p
 have hin : inB p 0 l.gives.length = true := inB_iff.2 (by omega)
 have he : askE l (inB p 0 l.gives.length) = 0 := by simp [askE, h, hp, hin]
 unfold flowsA at hk
 rw [if_pos he] at hk
 exact hk
end Go.Av.Fx
end
section
namespace Go.Av.Fx
open Go Go.Av Go.Av.Tb Go.Proofs
theorem cnts_ones (l : List Cnt) : (cnts l).all AV.one = true := by
 rw [List.all_eq_true]
 intro x hx
 unfold cnts at hx
 obtain ⟨c, _, h⟩ := List.mem_flatMap.1 hx
 simp [cntC] at h
 rcases h with rfl | rfl | rfl <;> rfl
theorem app_nil23 {S : St} {cs : List Cnt} {t : Tail} (h0 : 0 < cs.length) (hl : cs.length ≤ 1000) : appendA T S 23 .nilS (.slice (cnts cs) cs.length t) = some (.tok none fun j => .slice (cnts cs) cs.length (.tok j)) := by
 have h1 : descOf T 23 = some (.slice 82) := rfl
 have h2 : T 82 = some ti82 := rfl
 have h3 : ti82.size = 3 := rfl
 have h4 : ti82.bytes = 24 := rfl
 have h5 : heldA S 3 (.slice (cnts cs) cs.length t) = some (cnts cs, cs.length) := by
  show (if (cnts cs).length = cs.length * 3 then some (cnts cs, cs.length) else none) = _
  rw [if_pos (by rw [cnts_len]; omega)]
 unfold appendA
 simp only [h1, h2, h3, h4, h5, cnts_ones, Bool.not_true, Bool.false_eq_true, if_false]
 rw [if_neg (by decide), if_neg (by omega), if_pos (by omega)]
theorem app_tok23 {S : St} {cs : List Cnt} {c : Cnt} {k : Nat} (hl : cs.length ≤ 1000) : appendA T S 23 (.slice (cnts cs) cs.length (.tok k)) (.slice [.int .i64 c.point, .int .i64 c.low, .int .i64 c.high] 1 .exact) = some (.tok (some k) fun j => .slice (cnts (cs ++ [c])) (cs.length + 1) (.tok j)) := by
 rw [app_gen (e := 82) (ei := ti82) (lx := [.int .i64 c.point, .int .i64 c.low, .int .i64 c.high]) (nx := 1) rfl rfl (by decide) rfl (by decide) rfl (by show (cs.length + 1) * 24 ≤ _; omega) (by omega) (by rw [cnts_len]; simp [ti82]; omega)]
 show some (Res.tok (some k) fun j => .slice (cnts cs ++ cnts [c]) (cs.length + 1) (.tok j)) = _
 rw [cnts_app]
end Go.Av.Fx
end
section
namespace Go.Av.Fx
open Go Go.Av Go.Av.Tb Go.Proofs
theorem flows_no {l : LLine} (ok : okLine l) (h : isLineB l = true) (hp : possB l = false) {p : Nat} (hpt : p ≤ l.gives.length) : PC Tryz.prog 34 [lineA l, .int .i64 p] (.pure (.tuple [spA ⟨0, 0⟩, .int .i64 7])) := by
 have hk := Flows_pc l ok p
 have hin : inB p 0 l.gives.length = true := inB_iff.2 (by omega)
 have he : askE l (inB p 0 l.gives.length) = 7 := by simp [askE, h, hp, hin]
 unfold flowsA at hk
 rw [he, if_neg (by decide)] at hk
 exact hk
end Go.Av.Fx
end
section
namespace Go.Av.Fx
open Go Go.Av Go.Av.Tb Go.Proofs
theorem PC.weak {P : Program} {f : FuncId} {args : List AV} {v v' : AV} (h : PC P f args (.pure v)) (hf : ∀ H, Frz H v v') (ha : bndL 0 0 args = true) (hv : v'.bnd 0 0 = true) : PC P f args (.pure v') :=
 PC.of_frz ((h.ac St.empty).mono fun e S' hh => ⟨_, hh.1, hf _⟩) ha hv
def pe (l : LLine) : Int := if possB l = true then 0 else 7
def fl (l : LLine) (p : Nat) : Span := if possB l = true then flowsS l p else ⟨0, 0⟩
theorem out_no {l : LLine} (hp : possB l = false) : setsOut l = [] := by
 cases hs : setsOut l with
 | nil => rfl
 | cons s L => rw [poss_out.2 (by rw [hs]; simp)] at hp; cases hp
theorem sets_any {l : LLine} (ok : okLine l) (h : isLineB l = true) : PC Tryz.prog 22 [lineA l] (.pure (.tuple [sll (setsOut l), .int .i64 (pe l)])) := by
 unfold pe
 cases hp : possB l
 ·rw [if_neg (by decide), out_no hp]
  have hk := Sets_pc l ok
  have he : askE l true = 7 := by simp [askE, h, hp]
  unfold setsA at hk
  rw [he, if_neg (by decide)] at hk
  exact PC.weak hk (fun H => Frz.two .nil (.same _)) (by simp [bndL, AV.bnd]) (by simp [bndL, AV.bnd])
 ·rw [if_pos rfl]; exact sets_ok ok h hp
theorem flows_any {l : LLine} (ok : okLine l) (h : isLineB l = true) {p : Nat} (hpt : p ≤ l.gives.length) : PC Tryz.prog 34 [lineA l, .int .i64 p] (.pure (.tuple [spA (fl l p), .int .i64 (pe l)])) := by
 unfold pe fl
 cases hp : possB l
 ·rw [if_neg (by decide), if_neg (by decide)]; exact flows_no ok h hp hpt
 ·rw [if_pos rfl, if_pos rfl]; exact flows_ok ok h hp hpt
theorem more_loop0 (S S' : List (List Int)) (hS : S.length ≤ 1000) (hS' : S'.length ≤ 1000) (hx : ∀ x ∈ S, okL x.length) (hx' : ∀ x ∈ S', okL x.length) (hin : ∀ x ∈ S, x ∈ S') (Q : AQ) (v2 v4 v5 v10 v11 : AV) (H : St)
  (hQ : Q .normal [(2, v2), (4, v4), (5, v5), (9, sll S), (10, v10), (11, v11), (14, sll S'), (16, .int .i64 S.length), (118, .bool false)] H) :
  WC (E 209) (.loop l12_0) (blockQ 0 Q) [(2, v2), (4, v4), (5, v5), (9, sll S), (10, v10), (11, v11), (14, sll S'), (16, .int .i64 0)] H := by
 refine wc_for S.length (fun k => [(2, v2), (4, v4), (5, v5), (9, sll S), (10, v10), (11, v11), (14, sll S'), (16, .int .i64 k)]) (fun _ => H) rfl rfl ?_
 intro k hk I hI
 obtain ⟨C, hB⟩ : ∃ C, l12_0 = .seq (.seq (.region [2, 4, 5, 9, 10, 11, 14, 16, 118] r12_11) (.cond (.tmp 118) .skip (.exit 0))) C := ⟨_, rfl⟩
 have hB2 := hB
 rw [hB]
 by_cases g : k < S.length
 ·have g' : (k : Int) < S.length := by omega
  have g2 : 0 ≤ (k : Int) ∧ (k : Int) < S.length := by omega
  have g3 : S[k]? = some S[k] := List.getElem?_eq_getElem g
  have g4 : IntKind.i64.wrap ((k : Int) + 1) = (k + 1 : Nat) := wrap64 (by omega)
  have hL := listed_pc S' S[k] (by show _ < _; omega) hx' (hx _ (List.getElem_mem g))
  rw [decide_eq_true (hin _ (List.getElem_mem g))] at hL
  simp only [go_sem, builtinA, g', decide_true, reduceEqDiff, Nat.reduceBEq, reduceAdd, reduceIte, reduceCtorEq, reduceLeDiff]
  unfold l12_0 at hB2
  injection hB2 with _ hB2
  subst hB2
  simp only [go_sem, builtinA, decide_true, g2, sls_get, g3, Option.map_some, reduceEqDiff, Nat.reduceBEq, reduceAdd, reduceIte, reduceCtorEq, reduceLeDiff]
  refine cp n31 hL (SubL.refl _) ?_
  simp only [go_sem, un_not, Bool.not_true, g4, reduceEqDiff, Nat.reduceBEq, reduceAdd, reduceIte, reduceCtorEq, reduceLeDiff]
  exact hI g
 ·have g' : ¬ (k : Int) < S.length := by omega
  have ek : k = S.length := by omega
  subst ek
  simp only [go_sem, builtinA, g', decide_false, reduceEqDiff, Nat.reduceBEq, reduceAdd, reduceIte, reduceCtorEq, reduceLeDiff]
  exact hQ
theorem more_loop1 (S U : List (List Int)) (hS : S.length ≤ 1000) (hU : U.length ≤ 1000) (hx : ∀ x ∈ S, okL x.length) (hx' : ∀ x ∈ U, okL x.length) (hin : ∀ x ∈ U, x ∈ S) (Q : AQ) (v11 v19 v20 : AV) (H : St)
  (hQ : Q .normal [(9, sll S), (11, v11), (18, sll U), (19, v19), (20, v20), (22, .int .i64 U.length), (180, .bool false)] H) :
  WC (E 209) (.loop l12_1) (blockQ 2 Q) [(9, sll S), (11, v11), (18, sll U), (19, v19), (20, v20), (22, .int .i64 0)] H := by
 refine wc_for U.length (fun k => [(9, sll S), (11, v11), (18, sll U), (19, v19), (20, v20), (22, .int .i64 k)]) (fun _ => H) rfl rfl ?_
 intro k hk I hI
 obtain ⟨C, hB⟩ : ∃ C, l12_1 = .seq (.seq (.region [9, 11, 18, 19, 20, 22, 180] r12_24) (.cond (.tmp 180) .skip (.exit 2))) C := ⟨_, rfl⟩
 have hB2 := hB
 rw [hB]
 by_cases g : k < U.length
 ·have g' : (k : Int) < U.length := by omega
  have g2 : 0 ≤ (k : Int) ∧ (k : Int) < U.length := by omega
  have g3 : U[k]? = some U[k] := List.getElem?_eq_getElem g
  have g4 : IntKind.i64.wrap ((k : Int) + 1) = (k + 1 : Nat) := wrap64 (by omega)
  have hL := listed_pc S U[k] (by show _ < _; omega) hx (hx' _ (List.getElem_mem g))
  rw [decide_eq_true (hin _ (List.getElem_mem g))] at hL
  simp only [go_sem, builtinA, g', decide_true, reduceEqDiff, Nat.reduceBEq, reduceAdd, reduceIte, reduceCtorEq, reduceLeDiff]
  unfold l12_1 at hB2
  injection hB2 with _ hB2
  subst hB2
  simp only [go_sem, builtinA, decide_true, g2, sls_get, g3, Option.map_some, reduceEqDiff, Nat.reduceBEq, reduceAdd, reduceIte, reduceCtorEq, reduceLeDiff]
  refine cp n31 hL (SubL.refl _) ?_
  simp only [go_sem, un_not, Bool.not_true, g4, reduceEqDiff, Nat.reduceBEq, reduceAdd, reduceIte, reduceCtorEq, reduceLeDiff]
  exact hI g
 ·have g' : ¬ (k : Int) < U.length := by omega
  have ek : k = U.length := by omega
  subst ek
  simp only [go_sem, builtinA, g', decide_false, reduceEqDiff, Nat.reduceBEq, reduceAdd, reduceIte, reduceCtorEq, reduceLeDiff]
  exact hQ
theorem more_sub1 {l : LLine} {c : Cnt} {j : Nat} : Sub (.agg [sl l.gives, .int .i64 l.least, .int .i64 l.most, .int .i64 l.taps, .slice (cnts (l.counts ++ [c])) (l.counts.length + 1) (.tok j)]) (lineA (moreL l c)) := by
 have e : (l.counts ++ [c]).length = l.counts.length + 1 := by simp
 show Sub _ (.agg [sl l.gives, .int .i64 l.least, .int .i64 l.most, .int .i64 l.taps, .slice (cnts (l.counts ++ [c])) (l.counts ++ [c]).length .unk])
 rw [e]
 exact Sub.agg (SubL.cons (Sub.refl _) (SubL.cons (Sub.refl _) (SubL.cons (Sub.refl _) (SubL.cons (Sub.refl _) (SubL.cons (Sub.unk _ _ _) (SubL.refl []))))))
theorem more_sub {l : LLine} {c : Cnt} {j : Nat} : SubL [.agg [sl l.gives, .int .i64 l.least, .int .i64 l.most, .int .i64 l.taps, .slice (cnts (l.counts ++ [c])) (l.counts.length + 1) (.tok j)]] [lineA (moreL l c)] := SubL.cons more_sub1 (SubL.refl [])
theorem out_sz {l : LLine} (hw : Lw l) : ∀ x ∈ setsOut l, okL x.length := fun x hx => by
 have := setsL_le2 ((mem_setsOut hw).1 hx).1
 show _ < _; omega
set_option maxHeartbeats 8000000 in
theorem more_tail (l : LLine) (h : isLineB l = true) (more : Cnt) (p : Nat) (hpt : p ≤ l.gives.length) (X : Option Blk) (j nt : Nat) (toks : List Nat) (H2 : Option Blk) :
  WC (E 209) (.seq (.seq (.region [2, 9, 10, 11, 17, 138] r12_17) (.cond (.tmp 138) (.seq (.region [8] r12_18) .ret) .skip)) (.seq (.region [2, 9, 10, 11, 17, 18, 19] r12_19) (.seq (.region [9, 10, 11, 18, 19, 20, 21] r12_20) (.seq (.seq (.region [9, 11, 18, 19, 20, 176] r12_21) (.cond (.tmp 176) (.seq (.region [8] r12_22) .ret) .skip)) (.seq (.seq (.region [9, 11, 18, 19, 20, 22] r12_23) (.block 2 (.loop l12_1))) (.seq (.region [8] r12_28) .ret)))))) (bodyQ (E 209) Tryz.f12.results.toList (fun e x => e = AEnd.ret (AV.bool true)))
   [(2, .int .i64 p), (9, sll (setsOut l)), (10, .int .i64 (pe l)), (11, .ref 2 0), (17, .ref 4 0)] ⟨[some (.cells (lineC l)), H2, some (.cells [.int .i64 (fl l p).low, .int .i64 (fl l p).high]), X, some (.cells [sl l.gives, .int .i64 l.least, .int .i64 l.most, .int .i64 l.taps, .slice (cnts (l.counts ++ [more])) (l.counts.length + 1) (.tok j)])], nt, toks⟩ := by
 have hln := isLine_iff.1 h
 have hw := hln.lw
 have hpts := hln.pts
 have hcts := hln.cts
 have hn : (moreL l more).counts.length = l.counts.length + 1 := by simp [moreL]
 have okm : okLine (moreL l more) := ⟨by show l.gives.length < _; omega, by rw [hn]; show _ < _; omega⟩
 have hL := rLine_pc _ okm
 simp only [go_sem, reduceEqDiff, Nat.reduceBEq, reduceAdd, reduceIte, reduceCtorEq, reduceLeDiff]
 refine cp n28 hL more_sub ?_
 cases hm : isLineB (moreL l more)
 ·simp only [go_sem, un_not, Bool.not_false, reduceEqDiff, Nat.reduceBEq, reduceAdd, reduceIte, reduceCtorEq, reduceLeDiff]
  refine cp n20 known_pc (SubL.refl _) ?_
  simp only [go_sem, Tryz.f12, reduceEqDiff, Nat.reduceBEq, reduceAdd, reduceIte, reduceCtorEq, reduceLeDiff]
 have hlnm := isLine_iff.1 hm
 have hwm := hlnm.lw
 have hS := sets_any okm hm
 have hF := flows_any okm hm (p := p) hpt
 have mono := more_mono hw hwm
 have fmono := fun hp hp' => more_flows hw hwm hp hp' hpt
 have s1 := sets_100 hw
 have s2 := sets_100 hwm
 have x1 := out_sz hw
 have x2 := out_sz hwm
 have up : possB (moreL l more) = true → possB l = true := fun hp => poss_out.2 (by have := poss_out.1 hp; omega)
 generalize hSS : setsOut l = S at *
 generalize hUU : setsOut (moreL l more) = U at *
 have d1 : ¬ ((U.length : Int) > S.length) := by omega
 have y0 : ¬ ((0 : Int) ≠ 0) := by decide
 have y7 : ¬ ((7 : Int) ≠ 7) := by decide
 have d70 : decide ((7 : Int) ≠ 0) = true := rfl
 have z07 : ¬ ((0 : Int) = 7) := by decide
 simp only [go_sem, un_not, Bool.not_true, reduceEqDiff, Nat.reduceBEq, reduceAdd, reduceIte, reduceCtorEq, reduceLeDiff]
 refine cp n22 hS more_sub ?_
 simp only [go_sem, extractA, reduceEqDiff, Nat.reduceBEq, reduceAdd, reduceIte, reduceCtorEq, reduceLeDiff]
 refine cp n34 hF (SubL.cons more_sub1 (SubL.refl _)) ?_
 unfold pe fl
 cases hp' : possB (moreL l more)
 ·cases hp : possB l
  ·simp only [go_sem, extractA, put_eq, y7, d70, decide_false, decide_true, builtinA, d1, reduceEqDiff, Nat.reduceBEq, reduceAdd, reduceIte, reduceCtorEq, reduceLeDiff]
   refine more_loop1 S U (by omega) (by omega) x1 x2 mono.1 _ _ _ _ _ ?_
   simp only [go_sem, d70, reduceEqDiff, Nat.reduceBEq, reduceAdd, reduceIte, reduceCtorEq, reduceLeDiff]
   refine cp n20 known_pc (SubL.refl _) ?_
   simp only [go_sem, Tryz.f12, reduceEqDiff, Nat.reduceBEq, reduceAdd, reduceIte, reduceCtorEq, reduceLeDiff]
  ·simp only [go_sem, extractA, put_eq, y7, d70, z07, decide_false, decide_true, builtinA, d1, reduceEqDiff, Nat.reduceBEq, reduceAdd, reduceIte, reduceCtorEq, reduceLeDiff]
   refine more_loop1 S U (by omega) (by omega) x1 x2 mono.1 _ _ _ _ _ ?_
   simp only [go_sem, d70, reduceEqDiff, Nat.reduceBEq, reduceAdd, reduceIte, reduceCtorEq, reduceLeDiff]
   refine cp n20 known_pc (SubL.refl _) ?_
   simp only [go_sem, Tryz.f12, reduceEqDiff, Nat.reduceBEq, reduceAdd, reduceIte, reduceCtorEq, reduceLeDiff]
 ·have hp := up hp'
  rw [hp]
  have fm := fmono hp hp'
  rw [if_pos rfl, if_pos rfl]
  generalize flowsS l p = f1 at fm ⊢
  generalize flowsS (moreL l more) p = f2 at fm ⊢
  obtain ⟨a1, b1⟩ := f1
  obtain ⟨a2, b2⟩ := f2
  have g1 : a2 ≥ a1 := fm.1
  have g2 : b2 ≤ b1 := fm.2
  simp only [go_sem, extractA, put_eq, y0, z07, decide_false, decide_true, builtinA, d1, reduceEqDiff, Nat.reduceBEq, reduceAdd, reduceIte, reduceCtorEq, reduceLeDiff]
  refine more_loop1 S U (by omega) (by omega) x1 x2 mono.1 _ _ _ _ _ ?_
  simp only [go_sem, y0, g1, g2, decide_false, decide_true, reduceEqDiff, Nat.reduceBEq, reduceAdd, reduceIte, reduceCtorEq, reduceLeDiff]
  refine cp n20 known_pc (SubL.refl _) ?_
  simp only [go_sem, Tryz.f12, reduceEqDiff, Nat.reduceBEq, reduceAdd, reduceIte, reduceCtorEq, reduceLeDiff]
theorem taps_ln {l : LLine} (h : Ln l) {k : Int} (hk : 0 ≤ k ∧ k ≤ 2) : Ln (tapsL l k) := ⟨h.pts, h.cts, h.least, h.most, hk, h.gives, h.counts⟩
set_option maxHeartbeats 8000000 in
theorem LeakMore_pc (l : LLine) (ok : okLine l) (more : Cnt) (p taps : Int) : PC Tryz.prog 12 [lineA l, .agg (cntC more), .int .i64 p, .int .i64 taps] (.pure (.bool true)) := by
 refine PC.of_empty (AC.run (E_ok _) mix Tryz.func12 m12 rfl rfl rfl (Nat.le_of_ble_eq_true rfl) ?_) (by simp [bndL, AV.bnd]) rfl
 simp only [go_sem, boxA, reduceEqDiff, Nat.reduceBEq, reduceAdd, reduceIte, reduceCtorEq, reduceLeDiff]
 refine cp n19 (short_pc l) (SubL.refl _) ?_
 cases hsh : (decide ((l.gives.length : Int) ≤ 7) && decide ((l.counts.length : Int) ≤ 10))
 ·simp only [go_sem, un_not, Bool.not_false, reduceEqDiff, Nat.reduceBEq, reduceAdd, reduceIte, reduceCtorEq, reduceLeDiff]
  refine cp n20 known_pc (SubL.refl _) ?_
  simp only [go_sem, Tryz.f12, reduceEqDiff, Nat.reduceBEq, reduceAdd, reduceIte, reduceCtorEq, reduceLeDiff]
 simp only [go_sem, un_not, Bool.not_true, reduceEqDiff, Nat.reduceBEq, reduceAdd, reduceIte, reduceCtorEq, reduceLeDiff]
 refine cp n28 (rLine_pc l ok) (SubL.refl _) ?_
 cases h : isLineB l
 ·simp only [go_sem, un_not, Bool.not_false, reduceEqDiff, Nat.reduceBEq, reduceAdd, reduceIte, reduceCtorEq, reduceLeDiff]
  refine cp n20 known_pc (SubL.refl _) ?_
  simp only [go_sem, Tryz.f12, reduceEqDiff, Nat.reduceBEq, reduceAdd, reduceIte, reduceCtorEq, reduceLeDiff]
 simp only [go_sem, un_not, Bool.not_true, reduceEqDiff, Nat.reduceBEq, reduceAdd, reduceIte, reduceCtorEq, reduceLeDiff]
 refine cp n37 (rPoint_pc l p) (SubL.refl _) ?_
 cases ha : inB p 0 l.gives.length
 ·simp only [go_sem, un_not, Bool.not_false, reduceEqDiff, Nat.reduceBEq, reduceAdd, reduceIte, reduceCtorEq, reduceLeDiff]
  refine cp n20 known_pc (SubL.refl _) ?_
  simp only [go_sem, Tryz.f12, reduceEqDiff, Nat.reduceBEq, reduceAdd, reduceIte, reduceCtorEq, reduceLeDiff]
 have hln := isLine_iff.1 h
 have hw := hln.lw
 have hpts := hln.pts
 have hcts := hln.cts
 have htp := hln.taps
 have w1 : IntKind.i64.wrap (2 - l.taps) = 2 - l.taps := wrap64 (by omega)
 by_cases h1 : taps < 0
 ·simp only [go_sem, un_not, Bool.not_true, h1, decide_true, reduceEqDiff, Nat.reduceBEq, reduceAdd, reduceIte, reduceCtorEq, reduceLeDiff]
  refine cp n20 known_pc (SubL.refl _) ?_
  simp only [go_sem, Tryz.f12, reduceEqDiff, Nat.reduceBEq, reduceAdd, reduceIte, reduceCtorEq, reduceLeDiff]
 by_cases h2 : taps > 2 - l.taps
 ·simp only [go_sem, un_not, Bool.not_true, h1, h2, decide_true, decide_false, w1, reduceEqDiff, Nat.reduceBEq, reduceAdd, reduceIte, reduceCtorEq, reduceLeDiff]
  refine cp n20 known_pc (SubL.refl _) ?_
  simp only [go_sem, Tryz.f12, reduceEqDiff, Nat.reduceBEq, reduceAdd, reduceIte, reduceCtorEq, reduceLeDiff]
 simp only [go_sem, un_not, Bool.not_true, h1, h2, decide_true, decide_false, w1, reduceEqDiff, Nat.reduceBEq, reduceAdd, reduceIte, reduceCtorEq, reduceLeDiff]
 have hpa := inB_iff.1 ha
 obtain ⟨x, rfl⟩ : ∃ x : Nat, p = x := ⟨p.toNat, by omega⟩
 have hpt : x ≤ l.gives.length := by omega
 have w2 : IntKind.i64.wrap (l.taps + taps) = l.taps + taps := wrap64 (by omega)
 have hlt := taps_ln hln (k := l.taps + taps) (by omega)
 have hwt := hlt.lw
 have ht := isLine_iff.2 hlt
 have okt : okLine (tapsL l (l.taps + taps)) := ok
 have hS := sets_any ok h
 have hF := flows_any ok h hpt
 have hT := sets_any okt ht
 have mono := taps_mono hw hwt (by omega)
 have s1 := sets_100 hw
 have s2 := sets_100 hwt
 have x1 := out_sz hw
 have x2 := out_sz hwt
 have up : possB l = true → possB (tapsL l (l.taps + taps)) = true := fun hp => poss_out.2 (by have := poss_out.1 hp; omega)
 have tail := more_tail l h more x hpt
 refine cp n22 hS (SubL.refl _) ?_
 simp only [go_sem, extractA, reduceEqDiff, Nat.reduceBEq, reduceAdd, reduceIte, reduceCtorEq, reduceLeDiff]
 refine cp n34 hF (SubL.refl _) ?_
 simp only [go_sem, extractA, put_eq, w2, reduceEqDiff, Nat.reduceBEq, reduceAdd, reduceIte, reduceCtorEq, reduceLeDiff]
 refine cp n22 hT (SubL.refl _) ?_
 have y0 : ¬ ((0 : Int) ≠ 0) := by decide
 have y7 : ¬ ((7 : Int) ≠ 7) := by decide
 have d70 : decide ((7 : Int) ≠ 0) = true := rfl
 have z00 : decide ((0 : Int) = 0) = true := rfl
 have z70 : ¬ ((7 : Int) = 0) := by decide
 have hc : (pe l = 7 ∧ pe (tapsL l (l.taps + taps)) = 7) ∨ (pe l = 7 ∧ pe (tapsL l (l.taps + taps)) = 0) ∨ (pe l = 0 ∧ pe (tapsL l (l.taps + taps)) = 0) := by
  unfold pe
  cases hp : possB l
  ·cases possB (tapsL l (l.taps + taps)) <;> simp
  ·rw [up hp]; simp
 generalize setsOut (tapsL l (l.taps + taps)) = S' at *
 generalize pe (tapsL l (l.taps + taps)) = g at *
 have c1 : ¬ (((setsOut l).length : Int) > 100) := by omega
 have c2 : ¬ ((S'.length : Int) > 100) := by omega
 have c3 : ¬ (((setsOut l).length : Int) > S'.length) := by omega
 generalize fl l x = ff at *
 obtain ⟨u, v⟩ := ff
 have hcl : l.counts.length ≤ 1000 := by omega
 rcases hc with ⟨e1, e2⟩ | ⟨e1, e2⟩ | ⟨e1, e2⟩
 all_goals
  rw [e1] at tail ⊢
  rw [e2]
  simp only [go_sem, extractA, y0, y7, d70, z00, z70, c1, c2, c3, decide_false, decide_true, builtinA, reduceEqDiff, Nat.reduceBEq, reduceAdd, reduceIte, reduceCtorEq, reduceLeDiff]
  refine more_loop0 (setsOut l) S' (by omega) (by omega) x1 x2 mono.1 _ _ _ _ _ _ _ ?_
  simp only [go_sem, put_eq, builtinA, reduceEqDiff, Nat.reduceBEq, reduceAdd, reduceIte, reduceCtorEq, reduceLeDiff]
  rcases Nat.eq_zero_or_pos l.counts.length with h0 | h0
  ·have hn : l.counts = [] := List.length_eq_zero_iff.1 h0
   have a1 : ∀ S, appendA T S 23 .nilS (.slice (cnts l.counts) l.counts.length .unk) = some (.pure .nilS) := fun S => by rw [hn]; rfl
   have a2 : ∀ S, appendA T S 23 .nilS (.slice [.int .i64 more.point, .int .i64 more.low, .int .i64 more.high] 1 .exact) = some (.tok none fun j => .slice (cnts (l.counts ++ [more])) (l.counts.length + 1) (.tok j)) := fun S => by rw [hn]; rfl
   rw [a1]
   simp only [go_sem, put_eq, builtinA, a2, reduceEqDiff, Nat.reduceBEq, reduceAdd, reduceIte, reduceCtorEq, reduceLeDiff]
   have tl := tail (some (.cells [sl l.gives, .int .i64 l.least, .int .i64 l.most, .int .i64 (l.taps + taps), .slice (cnts l.counts) l.counts.length .unk])) 0 1 [0] (some (.cells (cntC more)))
   simp only [go_sem, reduceEqDiff, Nat.reduceBEq, reduceAdd, reduceIte, reduceCtorEq, reduceLeDiff] at tl
   exact tl
  ·have a2 : ∀ S k, appendA T S 23 (.slice (cnts l.counts) l.counts.length (.tok k)) (.slice [.int .i64 more.point, .int .i64 more.low, .int .i64 more.high] 1 .exact) = some (.tok (some k) fun j => .slice (cnts (l.counts ++ [more])) (l.counts.length + 1) (.tok j)) := fun S k => app_tok23 hcl
   rw [app_nil23 h0 hcl]
   simp only [go_sem, put_eq, builtinA, a2, reduceEqDiff, Nat.reduceBEq, reduceAdd, reduceIte, reduceCtorEq, reduceLeDiff]
   refine ⟨List.mem_cons_self, ?_⟩
   have tl := tail (some (.cells [sl l.gives, .int .i64 l.least, .int .i64 l.most, .int .i64 (l.taps + taps), .slice (cnts l.counts) l.counts.length .unk])) 1 2 [1] (some (.cells (cntC more)))
   simp only [go_sem, reduceEqDiff, Nat.reduceBEq, reduceAdd, reduceIte, reduceCtorEq, reduceLeDiff] at tl
   exact tl
end Go.Av.Fx
end
section
set_option maxRecDepth 100000
namespace Go.Av.Fx
open Go Go.Av Go.Av.Tb Go.Proofs Go.ChangeShapes Go.WideShapes Go.RowKit
def cW (W : World) : Cx :=
 {K := fun b o => W.cell? ⟨b, o, none⟩, μ := fun _ => none, τ := fun _ => none, X := fun _ _ => none
  XO := fun b => match W.heap[b]? with
   | some (.cells _ _ _) => none
   | o => o
  sz := W.heap.size, FZ := ⟨fun _ _ => false, W⟩ }
structure TabOk (W : World) : Prop where
 tab : ∀ i, i < 20 → W.cell? ⟨tabB, i, none⟩ = some (tabV i)
 tsh : ∃ t, W.shape? tabB = some (t, 20)
theorem cW_st {W : World} (h : TabOk W) : StRel (cW W) St.empty W where
 sz := Nat.le_refl _
 tab := h.tab
 tsh := h.tsh
 fr := Frm.refl W
 K := fun _ _ _ e => e
 X := fun _ _ _ e => by cases e
 XO := fun b ob e => by
  simp only [cW] at e
  split at e
  ·cases e
  ·rename_i hn
   exact ⟨e, fun cs t f he => hn cs t f (by rw [e, he])⟩
 F := fun _ _ e => by cases e
 dom := fun _ _ e => by cases e
 tdom := fun _ _ e => by cases e
 blk := fun i B e => by simp [St.empty] at e
 inj := fun i j Bi Bj n e => by simp [St.empty] at e
 tok := fun k hk => by cases hk
 tinj := fun k k' b lo hi lo' hi' hk => by cases hk
 tblk := fun k i b lo hi B hk => by cases hk
structure Keep (W W' : World) : Prop where
 os : W'.os = W.os
 out : W'.output = W.output
 block : ∀ k, k < W.heap.size → W'.heap[k]? = W.heap[k]?
theorem keep_of {W W' : World} {c' : Cx} {S' : St} (hle : (cW W).le c') (h : StRel c' S' W') : Keep W W' := by
 have hfr : Frm W W' := by have := h.fr; rw [hle.FZ] at this; exact this
 refine ⟨hfr.os, hfr.out, fun k hk => ?_⟩
 have hob : W.heap[k]? = some W.heap[k] := Array.getElem?_eq_getElem hk
 rw [hob]
 cases ho : W.heap[k] with
 | cells cs t fr =>
  rw [ho] at hob
  obtain ⟨cs', e1, e2⟩ := hfr.blk k cs t fr hob
  rw [e1]
  congr 2
  apply Array.ext
  ·exact e2
  ·intro j h1 h2
   have hc : W.cell? ⟨k, j, none⟩ = some cs[j] := by
    unfold World.cell?
    simp [hob, h2]
   have := h.K k j _ (hle.K k j _ hc)
   unfold World.cell? at this
   simp [e1, h1] at this
   exact this
 | _ =>
  rw [ho] at hob
  exact (h.XO k _ (by rw [hle.XO]; simp only [cW, hob])).1
theorem Keep.keptBut {W W' : World} (h : Keep W W') (may : MemPlace → Prop) : W.keptBut W' may := by
 refine ⟨h.os, h.out, fun i hi => ?_⟩
 rw [h.block i hi, Array.getElem?_eq_getElem hi]
 cases W.heap[i] with
 | cells c t fr => exact ⟨rfl, rfl, rfl, fun _ _ => rfl⟩
 | map es clock => exact .inr ⟨rfl, rfl⟩
 | _ => rfl
theorem Keep.same {W W' : World} (h : Keep W W') {p : MemPlace} (hp : p.block < W.heap.size) : W.sameAt W' p := by
 cases p with
 | cell b o => exact World.cell?_of_block (w := W) (h.block b hp)
 | map b => exact h.block b hp
theorem Keep.trod {H : Type} {enc : TypeId × Value → H} {P : Program} {t : TypeId} (hl : laidOutB P = true) (hr : P.readableRec t = true) (hrow : t < P.types.size) {W W' : World} {v : Value} {d : DataW H} {ps : List MemPlace}
  (h : DataW.Trod enc P W 0 (fun _ => true) true t v d ps) (hb : Keep W W') (hlt : ∀ x ∈ ps, x.block < W.heap.size) :
  DataW.Trod enc P W' 0 (fun b => decide (b < W.heap.size)) true t v d ps :=
 WideElems.Trod_stays hl hr hrow h (fun x hx => hb.same (hlt x hx)) (fun x hx => by simpa using hlt x hx)
theorem law_calls {f : FuncId} {args : List AV} {W : World} {vs : List Value} (h : PC Tryz.prog f args (.pure (.bool true))) (ht : TabOk W) (hl : LRel (cW W) args vs) :
  Calls Tryz.prog f vs.toArray W fun e W' => e = .returned (.bool true) ∧ Keep W W' := by
 refine (h (cW W) St.empty W vs (cW_st ht) hl).mono ?_
 rintro e W' ⟨x, rfl, c', hle, _, _, hst, hv⟩
 refine ⟨?_, keep_of hle hst⟩
 cases hv; rfl
theorem cells_of {W : World} {b off : Nat} {l : List AV} {n cap : Nat} (hc : n ≤ cap) (h : ∀ j x, l[j]? = some x → ∃ v, W.cell? ⟨b, off + j, none⟩ = some v ∧ VRel (cW W) x v) : VRel (cW W) (.slice l n .unk) (.slice (some ⟨b, off, none⟩) n cap) := by
 have get : ∀ j (hj : j < l.length), ∃ v, W.cell? ⟨b, off + j, none⟩ = some v ∧ VRel (cW W) l[j] v := fun j hj => h j _ (List.getElem?_eq_getElem hj)
 refine .slice l n .unk b off cap (fun j => (W.cell? ⟨b, off + j, none⟩).getD default) hc (fun j hj => ?_) (fun j x hx => ?_) (fun e => by cases e) (fun k e => by cases e)
 ·obtain ⟨v, h1, h2⟩ := get j hj
  show W.cell? _ = some ((W.cell? _).getD default)
  rw [h1]; rfl
 ·obtain ⟨v, h1, h2⟩ := h j x hx
  rw [h1]; exact h2
theorem add_at (b off i : Nat) : (⟨b, off, none⟩ : Addr).add i = ⟨b, off + i, none⟩ := add_plain b off i
theorem has_spot {W : World} {base : Nat} {t e : TypeId} {a : Addr} {len cap : Nat} (ht : Tryz.prog.underlying t = some (.slice e)) (h : Cell.okWide Tryz.prog W .any base t (.slice (some a) len cap)) : a.spot = none := by
 simp only [Cell.okWide, ht, Cell.ok] at h
 exact h.2.2.2.1
section
variable {H : Type} {enc : TypeId × Value → H} {W : World} {base : Nat} {fuel : Nat} {x : DataW H × List MemPlace}
theorem av_ints {v : Value} (h : DataW.trod enc Tryz.prog W 0 (fun _ => true) true fuel 22 [v] = some x) (hw : ∀ n ∈ x.1.weights Tryz.prog 22, n ≤ reachBytes) (hok : Cell.okWide Tryz.prog W .any base 22 v) : ∃ l : List Int, VRel (cW W) (sl l) v ∧ okL l.length := by
 rcases open_ints Tryz.underlying22 Tryz.underlying3 (by kernel_rfl) h with ⟨hcs, _⟩ | ⟨a, len, cap, zs, hcs, _, hl, hm, hz, hx, hcell, _⟩
 ·cases hcs
  exact ⟨[], .sliceNil .unk (fun k e => by cases e), Nat.zero_lt_succ _⟩
 ·cases hcs
  have hsp := has_spot Tryz.underlying22 hok
  obtain ⟨b, off, spot⟩ := a
  simp only at hsp
  subst hsp
  have hz : zs.length = cap := by simpa using hz
  have hlen : (zs.take len).length = len := by rw [List.length_take]; omega
  have hsize : len < 9223372036854775807 := by
   subst hx
   have h8 : Tryz.prog.bytesOf 3 = 8 := by kernel_rfl
   have := hw (((lits .i64 (zs.take len) : List (DataW H)).length + (lits .i64 (zs.drop len) : List (DataW H)).length) * 8) (by
    simp only [DataW.weights, Tryz.underlying22, h8]
    exact List.mem_cons_self)
   have e1 : (lits .i64 (zs.take len) : List (DataW H)).length = len := by simp [lits]; omega
   rw [e1] at this
   unfold reachBytes at this
   omega
  refine ⟨zs.take len, ?_, by rw [hlen]; exact hsize⟩
  show VRel (cW W) (.slice (ints (zs.take len)) (zs.take len).length .unk) _
  rw [hlen]
  refine cells_of hl fun j y hy => ?_
  rw [ints_get] at hy
  have hj : j < (zs.take len).length := by
   rcases Nat.lt_or_ge j (zs.take len).length with h' | h'
   ·exact h'
   ·rw [List.getElem?_eq_none h'] at hy; cases hy
  rw [List.getElem?_eq_getElem hj] at hy
  cases hy
  have hj2 : j < zs.length := by omega
  have hc := hcell j hj2
  rw [add_at] at hc
  refine ⟨_, hc, ?_⟩
  rw [List.getElem_take, List.getD_eq_getElem?_getD, List.getElem?_eq_getElem hj2]
  exact .int _ _
theorem av_int {v : Value} (h : DataW.trod enc Tryz.prog W 0 (fun _ => true) true fuel 3 [v] = some x) : ∃ n : Int, v = .int .i64 n ∧ (Lit.int .i64 n).wf = true := by
 obtain ⟨n, hcs, _, hw⟩ := DataW.trod_int Tryz.underlying3 h
 cases hcs
 exact ⟨n, rfl, hw⟩
theorem av_cnt {cs : List Value} (h : DataW.trod enc Tryz.prog W 0 (fun _ => true) true fuel 82 cs = some x) : ∃ c : Cnt, cs = [.int .i64 c.point, .int .i64 c.low, .int .i64 c.high] := by
 obtain ⟨xs, n, _, _, hl, hlen, hf⟩ := DataW.trod_struct Tryz.underlying82 h
 have hc : Tryz.prog.cellsOf 82 = 3 := by kernel_rfl
 have hc3 : Tryz.prog.cellsOf 3 = 1 := by kernel_rfl
 rw [hc] at hl
 match cs, hl with
 | [a, b, d], _ =>
  match xs, hlen with
  | [y0, y1, y2], _ =>
   have h0 : DataW.trod enc Tryz.prog W 0 (fun _ => true) true n 3 (([a, b, d].drop 0).take (Tryz.prog.cellsOf 3)) = some y0 := hf 0 _ rfl
   have h1 : DataW.trod enc Tryz.prog W 0 (fun _ => true) true n 3 (([a, b, d].drop 1).take (Tryz.prog.cellsOf 3)) = some y1 := hf 1 _ rfl
   have h2 : DataW.trod enc Tryz.prog W 0 (fun _ => true) true n 3 (([a, b, d].drop 2).take (Tryz.prog.cellsOf 3)) = some y2 := hf 2 _ rfl
   rw [hc3] at h0 h1 h2
   obtain ⟨p, rfl, _⟩ := av_int h0
   obtain ⟨q, rfl, _⟩ := av_int h1
   obtain ⟨r, rfl, _⟩ := av_int h2
   exact ⟨⟨p, q, r⟩, rfl⟩
theorem cnts_get : ∀ (l : List Cnt) (j : Nat) (y : AV), (cnts l)[j]? = some y → ∃ (i q : Nat) (hi : i < l.length), j = i * 3 + q ∧ q < 3 ∧ (cntC l[i])[q]? = some y
 | [], j, y, h => by simp [cnts] at h
 | c :: l, j, y, h => by
  have e : cnts (c :: l) = cntC c ++ cnts l := by simp [cnts]
  rw [e] at h
  by_cases hj : j < 3
  ·rw [List.getElem?_append_left (by simpa using hj)] at h
   exact ⟨0, j, by simp, by omega, hj, h⟩
  ·rw [List.getElem?_append_right (by simp; omega)] at h
   obtain ⟨i, q, hi, e1, e2, e3⟩ := cnts_get l _ y h
   refine ⟨i + 1, q, by simpa using hi, ?_, e2, e3⟩
   simp at e1; omega
theorem av_cnts {v : Value} (h : DataW.trod enc Tryz.prog W 0 (fun _ => true) true fuel 23 [v] = some x) (hw : ∀ n ∈ x.1.weights Tryz.prog 23, n ≤ reachBytes) (hok : Cell.okWide Tryz.prog W .any base 23 v) : ∃ l : List Cnt, VRel (cW W) (.slice (cnts l) l.length .unk) v ∧ okL l.length := by
 rcases Go.Deep.open_slice Tryz.underlying23 h with ⟨hcs, _⟩ | ⟨a, len, cap, m, n, D, Pl, hcs, _, hl, hm, hmm, hxx, hx⟩
 ·cases hcs
  exact ⟨[], .sliceNil .unk (fun k e => by cases e), Nat.zero_lt_succ _⟩
 ·cases hcs
  have hsp := has_spot Tryz.underlying23 hok
  obtain ⟨b, off, spot⟩ := a
  simp only at hsp
  subst hsp
  have hmc : m = cap := by simpa using hmm
  have hc : Tryz.prog.cellsOf 82 = 3 := by kernel_rfl
  rw [hc] at hx
  have each : ∀ i, i < len → ∃ c : Cnt, ∀ (q : Nat) (y : AV), (cntC c)[q]? = some y → ∃ u, W.cell? ⟨b, off + (i * 3 + q), none⟩ = some u ∧ VRel (cW W) y u := by
   intro i hi
   obtain ⟨cs', h1, h2⟩ := hx i (by omega)
   obtain ⟨c, rfl⟩ := av_cnt h2
   obtain ⟨_, _, hcell⟩ := World.cells?_some h1
   refine ⟨c, fun q y hy => ?_⟩
   have hq : q < 3 := by
    rcases Nat.lt_or_ge q 3 with h' | h'
    ·exact h'
    ·rw [List.getElem?_eq_none (by simpa using h')] at hy; cases hy
   have hcq := hcell q (by simpa using hq)
   rw [add_at, add_at, Nat.add_assoc] at hcq
   match q, hq, hy with
   | 0, _, hy => cases hy; exact ⟨_, hcq, .int _ _⟩
   | 1, _, hy => cases hy; exact ⟨_, hcq, .int _ _⟩
   | 2, _, hy => cases hy; exact ⟨_, hcq, .int _ _⟩
  obtain ⟨F, hF⟩ : ∃ F : Nat → Cnt, ∀ i, i < len → ∀ (q : Nat) (y : AV), (cntC (F i))[q]? = some y → ∃ u, W.cell? ⟨b, off + (i * 3 + q), none⟩ = some u ∧ VRel (cW W) y u :=
   ⟨fun i => if hi : i < len then (each i hi).choose else ⟨0, 0, 0⟩, fun i hi => by
    show ∀ (q : Nat) (y : AV), (cntC (if hi : i < len then (each i hi).choose else ⟨0, 0, 0⟩))[q]? = some y → _
    rw [dif_pos hi]; exact (each i hi).choose_spec⟩
  have hlen : ((List.range len).map F).length = len := by simp
  have hsize : len < 9223372036854775807 := by
   subst hxx
   have h8 : Tryz.prog.bytesOf 82 = 24 := by kernel_rfl
   have := hw ((((List.range len).map D).length + ((List.range (m - len)).map fun j => D (len + j)).length) * 24) (by
    simp only [DataW.weights, Tryz.underlying23, h8]
    exact List.mem_cons_self)
   rw [List.length_map, List.length_range] at this
   unfold reachBytes at this
   omega
  refine ⟨(List.range len).map F, ?_, by rw [hlen]; exact hsize⟩
  rw [hlen]
  refine cells_of hl fun j y hy => ?_
  obtain ⟨i, q, hi, rfl, _, e3⟩ := cnts_get _ j y hy
  rw [hlen] at hi
  have e4 : ((List.range len).map F)[i] = F i := by simp
  rw [e4] at e3
  exact hF i hi q y e3
end
theorem av_line {H : Type} {enc : TypeId × Value → H} {W : World} {base : Nat} {v : Value} {d : DataW H} {ps : List MemPlace} (h : DataW.Trod enc Tryz.prog W 0 (fun _ => true) true 25 v d ps) (hw : ∀ n ∈ d.weights Tryz.prog 25, n ≤ reachBytes) (hok : Value.okWide Tryz.prog W .any base 25 v) :
  ∃ l : LLine, VRel (cW W) (lineA l) v ∧ okLine l := by
 obtain ⟨fuel, h⟩ := h
 simp only [Value.okWide, Tryz.underlying25] at hok
 obtain ⟨cs, rfl, hsz, ts, hts, _, hrow⟩ := hok
 have hc : Tryz.prog.cellsOf 25 = 5 := by kernel_rfl
 rw [hc] at hsz
 obtain ⟨c0, c1, c2, c3, c4, rfl⟩ : ∃ c0 c1 c2 c3 c4, cs = #[c0, c1, c2, c3, c4] := by
  obtain ⟨l⟩ := cs
  match l, hsz with
  | [c0, c1, c2, c3, c4], _ => exact ⟨c0, c1, c2, c3, c4, rfl⟩
 have hts' : Go.Program.cellTypes Tryz.prog Tryz.prog.depth 25 = some [22, 3, 3, 3, 23] := by kernel_rfl
 rw [hts'] at hts
 cases hts
 have k0 : Cell.okWide Tryz.prog W .any base 22 c0 := by
  obtain ⟨u, e, hu⟩ := hrow 0 c0 rfl
  cases e; exact hu
 have k4 : Cell.okWide Tryz.prog W .any base 23 c4 := by
  obtain ⟨u, e, hu⟩ := hrow 4 c4 rfl
  cases e; exact hu
 obtain ⟨xs, n, _, hd, hl, hlen, hf⟩ := DataW.trod_struct Tryz.underlying25 h
 have hc3 : Tryz.prog.cellsOf 3 = 1 := by kernel_rfl
 have hc22 : Tryz.prog.cellsOf 22 = 1 := by kernel_rfl
 have hc23 : Tryz.prog.cellsOf 23 = 1 := by kernel_rfl
 match xs, hlen with
 | [y0, y1, y2, y3, y4], _ =>
  have h0 : DataW.trod enc Tryz.prog W 0 (fun _ => true) true n 22 (([c0, c1, c2, c3, c4].drop 0).take (Tryz.prog.cellsOf 22)) = some y0 := hf 0 _ rfl
  have h1 : DataW.trod enc Tryz.prog W 0 (fun _ => true) true n 3 (([c0, c1, c2, c3, c4].drop 1).take (Tryz.prog.cellsOf 3)) = some y1 := hf 1 _ rfl
  have h2 : DataW.trod enc Tryz.prog W 0 (fun _ => true) true n 3 (([c0, c1, c2, c3, c4].drop 2).take (Tryz.prog.cellsOf 3)) = some y2 := hf 2 _ rfl
  have h3 : DataW.trod enc Tryz.prog W 0 (fun _ => true) true n 3 (([c0, c1, c2, c3, c4].drop 3).take (Tryz.prog.cellsOf 3)) = some y3 := hf 3 _ rfl
  have h4 : DataW.trod enc Tryz.prog W 0 (fun _ => true) true n 23 (([c0, c1, c2, c3, c4].drop 4).take (Tryz.prog.cellsOf 23)) = some y4 := hf 4 _ rfl
  rw [hc3] at h1 h2 h3
  rw [hc22] at h0
  rw [hc23] at h4
  cases hd
  have hw' : ∀ (j : Nat) (t : TypeId) (d : DataW H), [22, 3, 3, 3, 23][j]? = some t → [y0.1, y1.1, y2.1, y3.1, y4.1][j]? = some d → ∀ n ∈ d.weights Tryz.prog t, n ≤ reachBytes := fun j t d ht hd n hn => by
   refine hw n ?_
   simp only [DataW.weights, Tryz.underlying25]
   exact DataW.weights_mem_each (ts := [22, 3, 3, 3, 23]) ht hd n hn
  obtain ⟨g, hg, og⟩ := av_ints h0 (hw' 0 _ _ rfl rfl) k0
  obtain ⟨p, rfl, _⟩ := av_int h1
  obtain ⟨q, rfl, _⟩ := av_int h2
  obtain ⟨r, rfl, _⟩ := av_int h3
  obtain ⟨cn, hcn, oc⟩ := av_cnts h4 (hw' 4 _ _ rfl rfl) k4
  refine ⟨⟨g, p, q, r, cn⟩, VRel.mk_agg ?_, og, oc⟩
  exact LRel.cons hg (LRel.cons (.int _ _) (LRel.cons (.int _ _) (LRel.cons (.int _ _) (LRel.cons hcn (LRel.nil _)))))
end Go.Av.Fx
end
