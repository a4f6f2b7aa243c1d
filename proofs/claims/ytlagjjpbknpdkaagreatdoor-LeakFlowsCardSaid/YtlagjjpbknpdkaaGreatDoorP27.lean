/- Part 27 of the proof. -/
import Derived.Test.YtlagjjpbknpdkaaGreatDoorP26
import Derived.Test.YtlagjjpbknpdkaaGreatDoorP20
import Derived.Test.YtlagjjpbknpdkaaGreatDoorP24
import Derived.Test.YtlagjjpbknpdkaaGreatDoorP25
set_option linter.all false
set_option linter.unusedVariables false
set_option linter.unusedSimpArgs false
set_option linter.unusedSectionVars false
open Nat (reduceEqDiff reduceAdd reduceLeDiff)
section
namespace Go.Av.Fx
open Go Go.Av Go.Av.Tb Go.Proofs
theorem Sub.map {α : Type} (f g : α → AV) (h : ∀ a, Sub (f a) (g a)) (L : List α) (n : Nat) (t : Tail) : Sub (.slice (L.map f) n t) (.slice (L.map g) n .unk) := by
 intro c x hx
 generalize hl : L.map f = l at hx
 cases hx with
 | slice _ _ _ b off cap vs hc hk hr he ht =>
  subst hl
  refine .slice _ n .unk b off cap vs hc (fun j hj => hk j (by simpa using hj)) (fun j y hy => ?_) (fun e => by cases e) (fun k e => by cases e)
  rw [List.getElem?_map] at hy
  cases e : L[j]? with
  | none => rw [e] at hy; cases hy
  | some a =>
   rw [e] at hy; cases hy
   exact h a c _ (hr j (f a) (by rw [List.getElem?_map, e]; rfl))
 | sliceNil _ ht =>
  have : L = [] := by simpa using hl
  subst this
  exact .sliceNil .unk (fun k e => by cases e)
theorem askM : askE lineM true = 0 := by simp [askE, kM_line, kM_poss]
theorem okM : okLine lineM := ⟨by decide, by decide⟩
theorem okN : okLine lineN := ⟨by decide, by decide⟩
theorem q1 : PC Tryz.prog 41 [lineA lineN] (.pure (.tuple [.bool false, .int .i64 0])) := by
 have := Possible_pc lineN okN
 rw [kN_line, kN_poss] at this; exact this
theorem q2 : PC Tryz.prog 22 [lineA lineM] (.pure (.tuple [sll [[0], [1], [2]], .int .i64 0])) := by
 have := Sets_pc lineM okM
 unfold setsA at this
 rw [if_pos askM, kM_sets] at this; exact this
theorem q3 : PC Tryz.prog 21 [lineA lineM] (.pure (.tuple [sl [2, 2, 2], .int .i64 0])) := by
 have := Known_pc lineM okM
 unfold knownA at this
 rw [if_pos askM, show lineM.gives.length = 3 from rfl, kM_words] at this; exact this
theorem q4 : PC Tryz.prog 34 [lineA lineM, .int .i64 1] (.pure (.tuple [spA ⟨78, 94⟩, .int .i64 0])) := by
 have := Flows_pc lineM okM 1
 unfold flowsA at this
 rw [show inB 1 0 lineM.gives.length = true from rfl, if_pos askM, show Int.toNat 1 = 1 from rfl, kM_flows] at this; exact this
theorem q5 : PC Tryz.prog 35 [lineA lineM, .int .i64 0, .int .i64 3] (.pure (.tuple [spA ⟨8, 15⟩, .int .i64 0])) := by
 have := Lost_pc lineM okM 0 3
 unfold lostA at this
 rw [show fineLost lineM 0 3 = true from rfl, if_pos askM, show Int.toNat 0 = 0 from rfl, show Int.toNat 3 = 3 from rfl, kM_lost] at this; exact this
theorem q6 : PC Tryz.prog 30 [lineA lineM, sl [1]] (.pure (.tuple [spA ⟨8, 15⟩, .int .i64 0])) := by
 have := Explains_pc lineM okM [1] (by decide)
 unfold explA at this
 rw [if_pos ⟨kM_line, by decide⟩, if_pos (show isSetB lineM [1] = true by decide +kernel)] at this
 have h := kM_expl
 cases hx : explM lineM [1] with
 | none => rw [hx] at h; cases h
 | some W =>
  rw [hx] at h this
  have h : lostS lineM W 0 3 = ⟨8, 15⟩ := by simpa using h
  simp only [show lineM.gives.length = 3 from rfl, h] at this
  exact this
theorem q7 : PC Tryz.prog 43 [lineA lineM, .int .i64 2] (.pure (.tuple [.int .i64 1, .int .i64 2, .int .i64 0])) := by
 have := Next_pc lineM okM 2
 unfold nextA at this
 rw [show inB 2 0 20 = true from rfl, if_pos askM, kM_next] at this; exact this
theorem q8 : PC Tryz.prog 47 [lineA lineM, sl [1, 2], .int .i64 2] (.pure (.tuple [.bool true, .int .i64 0])) := by
 have := Tells_pc lineM okM [1, 2] (by decide) 2
 unfold tellsA at this
 rw [show fineTells lineM [1, 2] 2 = true by decide +kernel, if_pos askM, kM_tells] at this; exact this
theorem q9 : PC Tryz.prog 48 [lineA lineM, .int .i64 2] (.pure (.tuple [sl [1, 2], .int .i64 0])) := by
 have := Plan_pc lineM okM 2
 unfold planA at this
 rw [show inB 2 0 20 = true from rfl, if_pos askM, kM_plan] at this; exact this
theorem q10 : PC Tryz.prog 53 [lineA lineN] (.pure (.tuple [.int .i64 0, .int .i64 2, .int .i64 0])) := by
 have := Clash_pc lineN okN
 unfold clashA at this
 rw [if_pos kN_line, kN_clash] at this; exact this
theorem q11 : PC Tryz.prog 54 [lineA lineN] (.pure (.tuple [sl [0], .int .i64 0])) := by
 have := Wrong_pc lineN okN
 unfold wrongA at this
 rw [if_pos kN_line, kN_wrong] at this; exact this
theorem q12 : PC Tryz.prog 61 [.str exT] (.pure (.tuple [lineA lineT, .int .i64 0])) := by
 have := Read_pc exT (by decide)
 unfold readA at this
 rw [if_pos (by decide), kT] at this
 simp only [if_pos kT_line] at this
 exact this
theorem q13 : PC Tryz.prog 62 [lineA lineT] (.pure (.str exT)) := by
 have := rPrint_pc lineT (isLine_iff.1 kT_line).plain
 rw [kT_text] at this; exact this
@[go_sem] theorem ne42a : binA T .neq 42 (.agg [.int .i64 78, .int .i64 94]) (.agg [.int .i64 78, .int .i64 94]) = some (.bool false) := rfl
@[go_sem] theorem ne42b : binA T .neq 42 (.agg [.int .i64 8, .int .i64 15]) (.agg [.int .i64 8, .int .i64 15]) = some (.bool false) := rfl
set_option maxRecDepth 100000 in
theorem known_pc : PC Tryz.prog 20 [] (.pure (.bool true)) := by
 refine PC.of_empty (AC.run (E_ok _) mix Tryz.func20 m20 rfl rfl rfl (Nat.le_of_ble_eq_true rfl) ?_) rfl rfl
 simp only [go_sem, reduceEqDiff, Nat.reduceBEq, reduceAdd, reduceIte, reduceCtorEq, reduceLeDiff]
 refine cp n73 N_pc (SubL.refl _) ?_
 simp only [go_sem, reduceEqDiff, Nat.reduceBEq, reduceAdd, reduceIte, reduceCtorEq, reduceLeDiff]
 refine cp n41 q1 (SubL.refl _) ?_
 simp only [go_sem, extractA, reduceEqDiff, Nat.reduceBEq, reduceAdd, reduceIte, reduceCtorEq, reduceLeDiff]
 refine cp n74 M_pc (SubL.refl _) ?_
 simp only [go_sem, reduceEqDiff, Nat.reduceBEq, reduceAdd, reduceIte, reduceCtorEq, reduceLeDiff]
 refine cp n22 q2 (SubL.refl _) ?_
 simp only [go_sem, extractA, reduceEqDiff, Nat.reduceBEq, reduceAdd, reduceIte, reduceCtorEq, reduceLeDiff]
 refine cp n74 M_pc (SubL.refl _) ?_
 simp only [go_sem, reduceEqDiff, Nat.reduceBEq, reduceAdd, reduceIte, reduceCtorEq, reduceLeDiff]
 refine cp n21 q3 (SubL.refl _) ?_
 simp only [go_sem, extractA, reduceEqDiff, Nat.reduceBEq, reduceAdd, reduceIte, reduceCtorEq, reduceLeDiff]
 refine cp n74 M_pc (SubL.refl _) ?_
 simp only [go_sem, reduceEqDiff, Nat.reduceBEq, reduceAdd, reduceIte, reduceCtorEq, reduceLeDiff]
 refine cp n34 q4 (SubL.refl _) ?_
 simp only [go_sem, extractA, put_eq, reduceEqDiff, Nat.reduceBEq, reduceAdd, reduceIte, reduceCtorEq, reduceLeDiff]
 refine cp n74 M_pc (SubL.refl _) ?_
 simp only [go_sem, reduceEqDiff, Nat.reduceBEq, reduceAdd, reduceIte, reduceCtorEq, reduceLeDiff]
 refine cp n35 q5 (SubL.refl _) ?_
 simp only [go_sem, extractA, put_eq, reduceEqDiff, Nat.reduceBEq, reduceAdd, reduceIte, reduceCtorEq, reduceLeDiff]
 refine cp n74 M_pc (SubL.refl _) ?_
 simp only [go_sem, reduceEqDiff, Nat.reduceBEq, reduceAdd, reduceIte, reduceCtorEq, reduceLeDiff]
 refine cp n30 q6 (SubL.cons (Sub.refl _) (SubL.cons (Sub.unk _ _ _) (SubL.refl _))) ?_
 simp only [go_sem, extractA, put_eq, reduceEqDiff, Nat.reduceBEq, reduceAdd, reduceIte, reduceCtorEq, reduceLeDiff]
 refine cp n74 M_pc (SubL.refl _) ?_
 simp only [go_sem, reduceEqDiff, Nat.reduceBEq, reduceAdd, reduceIte, reduceCtorEq, reduceLeDiff]
 refine cp n43 q7 (SubL.refl _) ?_
 simp only [go_sem, extractA, reduceEqDiff, Nat.reduceBEq, reduceAdd, reduceIte, reduceCtorEq, reduceLeDiff]
 refine cp n74 M_pc (SubL.refl _) ?_
 simp only [go_sem, reduceEqDiff, Nat.reduceBEq, reduceAdd, reduceIte, reduceCtorEq, reduceLeDiff]
 refine cp n47 q8 (SubL.cons (Sub.refl _) (SubL.cons (Sub.unk _ _ _) (SubL.refl _))) ?_
 simp only [go_sem, extractA, reduceEqDiff, Nat.reduceBEq, reduceAdd, reduceIte, reduceCtorEq, reduceLeDiff]
 refine cp n74 M_pc (SubL.refl _) ?_
 simp only [go_sem, reduceEqDiff, Nat.reduceBEq, reduceAdd, reduceIte, reduceCtorEq, reduceLeDiff]
 refine cp n48 q9 (SubL.refl _) ?_
 simp only [go_sem, extractA, reduceEqDiff, Nat.reduceBEq, reduceAdd, reduceIte, reduceCtorEq, reduceLeDiff]
 refine cp n73 N_pc (SubL.refl _) ?_
 simp only [go_sem, reduceEqDiff, Nat.reduceBEq, reduceAdd, reduceIte, reduceCtorEq, reduceLeDiff]
 refine cp n53 q10 (SubL.refl _) ?_
 simp only [go_sem, extractA, reduceEqDiff, Nat.reduceBEq, reduceAdd, reduceIte, reduceCtorEq, reduceLeDiff]
 refine cp n73 N_pc (SubL.refl _) ?_
 simp only [go_sem, reduceEqDiff, Nat.reduceBEq, reduceAdd, reduceIte, reduceCtorEq, reduceLeDiff]
 refine cp n54 q11 (SubL.refl _) ?_
 simp only [go_sem, extractA, reduceEqDiff, Nat.reduceBEq, reduceAdd, reduceIte, reduceCtorEq, reduceLeDiff]
 refine cp n61 q12 (SubL.refl _) ?_
 have z0 : ¬ ((0 : Int) ≠ 0) := by decide
 simp only [go_sem, extractA, put_eq, z0, decide_false, reduceEqDiff, Nat.reduceBEq, reduceAdd, reduceIte, reduceCtorEq, reduceLeDiff]
 refine cp n26 (SameSets_pc [[0], [1], [2]] [[0], [1], [2]] (by decide) (by decide) (by decide) (by decide)) (SubL.cons (Sub.refl _) (SubL.cons (Sub.map (fun s => .slice (ints s) s.length .exact) sl (fun s => Sub.unk _ _ _) [[0], [1], [2]] 3 .exact) (SubL.refl _))) ?_
 rw [decide_eq_true rfl]
 simp only [go_sem, un_not, Bool.not_true, reduceEqDiff, Nat.reduceBEq, reduceAdd, reduceIte, reduceCtorEq, reduceLeDiff]
 refine cp n24 (SameWords_pc [2, 2, 2] [2, 2, 2] (by decide) (by decide)) (SubL.cons (Sub.refl _) (SubL.cons (Sub.unk _ _ _) (SubL.refl _))) ?_
 rw [decide_eq_true rfl]
 have z1 : decide ((1 : Int) = 1) = true := rfl
 have z2 : decide ((2 : Int) = 2) = true := rfl
 have z3 : decide ((0 : Int) = 0) = true := rfl
 simp only [go_sem, un_not, Bool.not_true, put_eq, z1, z2, z3, decide_true, reduceEqDiff, Nat.reduceBEq, reduceAdd, reduceIte, reduceCtorEq, reduceLeDiff]
 refine cp n50 (Same_pc [1, 2] [1, 2] (by decide) (by decide)) (SubL.cons (Sub.refl _) (SubL.cons (Sub.unk _ _ _) (SubL.refl _))) ?_
 rw [decide_eq_true rfl]
 simp only [go_sem, un_not, Bool.not_true, put_eq, z1, z2, z3, decide_true, reduceEqDiff, Nat.reduceBEq, reduceAdd, reduceIte, reduceCtorEq, reduceLeDiff]
 refine cp n50 (Same_pc [0] [0] (by decide) (by decide)) (SubL.cons (Sub.refl _) (SubL.cons (Sub.unk _ _ _) (SubL.refl _))) ?_
 rw [decide_eq_true rfl]
 simp only [go_sem, un_not, Bool.not_true, put_eq, z1, z2, z3, decide_true, reduceEqDiff, Nat.reduceBEq, reduceAdd, reduceIte, reduceCtorEq, reduceLeDiff]
 refine cp n62 q13 (SubL.refl _) ?_
 have z4 : binA T .eql 9 (.str exT) (.str ⟨#[108, 105, 110, 101, 32, 49, 32, 49, 32, 48, 10, 115, 116, 114, 101, 116, 99, 104, 32, 48, 10, 101, 110, 100, 32, 48, 53, 49, 10]⟩) = some (.bool true) := (show binA T .eql 9 (.str exT) (.str exT) = some (.bool true) by rw [eqS, decide_eq_true rfl])
 simp only [go_sem, z4, Tryz.f20, reduceEqDiff, Nat.reduceBEq, reduceAdd, reduceIte, reduceCtorEq, reduceLeDiff]
end Go.Av.Fx
end
section
namespace Go.Av.Fx
open Go Go.Av Go.Proofs
open Go.Fw (Sq ent Bd Mat Tells Good)
def gsum (l : LLine) : Nat → Int
 | 0 => 0
 | p + 1 => gsum l p + l.gives.getD p 0
theorem gsum_bd {l : LLine} (h : Lw l) : ∀ p : Nat, 0 ≤ gsum l p ∧ gsum l p ≤ 60 * p
 | 0 => ⟨Int.le_refl _, Int.le_refl _⟩
 | p + 1 => by
  have h1 := gsum_bd h p
  have h2 := h.give p
  show 0 ≤ gsum l p + _ ∧ gsum l p + _ ≤ _
  omega
theorem sumW_eq {l : LLine} (h : Lw l) {a : Nat} : ∀ k : Nat, a + k ≤ l.gives.length → sumW ((l.gives.drop a).take k) = gsum l (a + k) - gsum l a
 | 0, hk => by simp [sumW]
 | k + 1, hk => by
  have hp := h.pts
  have ih := sumW_eq h (a := a) k (by omega)
  have hl : k < (l.gives.drop a).length := by rw [List.length_drop]; omega
  unfold sumW at ih ⊢
  rw [foldl_take _ _ _ _ hl, ih]
  have e : (l.gives.drop a)[k] = l.gives.getD (a + k) 0 := by
   have hlt : a + k < l.gives.length := by omega
   rw [List.getElem_drop, List.getD_eq_getElem?_getD, List.getElem?_eq_getElem hlt]; rfl
  have h1 := gsum_bd h (a + k)
  have h2 := gsum_bd h a
  have h3 := h.give (a + k)
  rw [e, wrap64 (by omega), show a + (k + 1) = a + k + 1 by omega]
  show _ = gsum l (a + k) + _ - gsum l a
  omega
structure Spn (P : (Nat → Int) → Prop) (g : (Nat → Int) → Int) (sp : Span) : Prop where
 bd : ∀ f, P f → sp.low ≤ g f ∧ g f ≤ sp.high
 lo : ∃ f, P f ∧ g f = sp.low
 hi : ∃ f, P f ∧ g f = sp.high
theorem Spn.uniq {P : (Nat → Int) → Prop} {g : (Nat → Int) → Int} {a b : Span} (h : Spn P g a) (h' : Spn P g b) : a = b := by
 obtain ⟨f1, p1, e1⟩ := h.lo
 obtain ⟨f2, p2, e2⟩ := h.hi
 obtain ⟨f3, p3, e3⟩ := h'.lo
 obtain ⟨f4, p4, e4⟩ := h'.hi
 have := h'.bd f1 p1; have := h'.bd f2 p2; have := h.bd f3 p3; have := h.bd f4 p4
 cases a; cases b
 simp only [Span.mk.injEq]
 simp only at *
 omega
theorem Spn.imp {P Q : (Nat → Int) → Prop} {g : (Nat → Int) → Int} {a : Span} (h : Spn P g a) (e : ∀ f, P f ↔ Q f) : Spn Q g a := by
 obtain ⟨f1, p1, e1⟩ := h.lo
 obtain ⟨f2, p2, e2⟩ := h.hi
 exact ⟨fun f hf => h.bd f ((e f).2 hf), ⟨f1, (e _).1 p1, e1⟩, ⟨f2, (e _).1 p2, e2⟩⟩
theorem Spn.join {P Q : (Nat → Int) → Prop} {g : (Nat → Int) → Int} {a b : Span} (h : Spn P g a) (h' : Spn Q g b) : Spn (fun f => P f ∨ Q f) g (joinS a b) := by
 obtain ⟨f1, p1, e1⟩ := h.lo
 obtain ⟨f2, p2, e2⟩ := h.hi
 obtain ⟨f3, p3, e3⟩ := h'.lo
 obtain ⟨f4, p4, e4⟩ := h'.hi
 unfold joinS
 refine ⟨?_, ?_, ?_⟩
 ·rintro f (hf | hf)
  ·have := h.bd f hf
   constructor
   ·show (if b.low < a.low then b.low else a.low) ≤ _; split <;> omega
   ·show _ ≤ (if b.high > a.high then b.high else a.high); split <;> omega
  ·have := h'.bd f hf
   constructor
   ·show (if b.low < a.low then b.low else a.low) ≤ _; split <;> omega
   ·show _ ≤ (if b.high > a.high then b.high else a.high); split <;> omega
 ·by_cases c : b.low < a.low
  ·exact ⟨f3, .inr p3, by show _ = if b.low < a.low then b.low else a.low; rw [if_pos c]; exact e3⟩
  ·exact ⟨f1, .inl p1, by show _ = if b.low < a.low then b.low else a.low; rw [if_neg c]; exact e1⟩
 ·by_cases c : b.high > a.high
  ·exact ⟨f4, .inr p4, by show _ = if b.high > a.high then b.high else a.high; rw [if_pos c]; exact e4⟩
  ·exact ⟨f2, .inl p2, by show _ = if b.high > a.high then b.high else a.high; rw [if_neg c]; exact e2⟩
theorem Spn.fold {α : Type} {P : α → (Nat → Int) → Prop} {g : (Nat → Int) → Int} {f : α → Span} : ∀ (L : List α) {Q : (Nat → Int) → Prop} {o : Span}, Spn Q g o → (∀ t ∈ L, Spn (P t) g (f t)) →
  Spn (fun x => Q x ∨ ∃ t, t ∈ L ∧ P t x) g (L.foldl (fun o t => joinS o (f t)) o)
 | [], Q, o, h, _ => h.imp fun x => ⟨.inl, fun hx => hx.elim id fun ⟨t, ht, _⟩ => by cases ht⟩
 | t :: L, Q, o, h, hL => by
  refine (Spn.fold L (h.join (hL t List.mem_cons_self)) fun t ht => hL t (List.mem_cons_of_mem _ ht)).imp fun x => ?_
  constructor
  ·rintro ((h | h) | ⟨u, hu, h⟩)
   ·exact .inl h
   ·exact .inr ⟨t, List.mem_cons_self, h⟩
   ·exact .inr ⟨u, List.mem_cons_of_mem _ hu, h⟩
  ·rintro (h | ⟨u, hu, h⟩)
   ·exact .inl (.inl h)
   ·rcases List.mem_cons.1 hu with rfl | hu
    ·exact .inl (.inr h)
    ·exact .inr ⟨u, hu, h⟩
theorem over_spn {P : Theft → (Nat → Int) → Prop} {g : (Nat → Int) → Int} {f : Theft → Span} {L : List Theft} (hne : 0 < L.length) (h : ∀ t ∈ L, Spn (P t) g (f t)) : Spn (fun x => ∃ t, t ∈ L ∧ P t x) g (overS L f) := by
 cases L with
 | nil => cases hne
 | cons t L =>
  refine (Spn.fold (t :: L) (h t List.mem_cons_self) h).imp fun x => ?_
  exact ⟨fun hx => hx.elim (fun hx => ⟨t, List.mem_cons_self, hx⟩) id, .inr⟩
theorem span_eq {l : LLine} (h : Lw l) {s : List Int} {W : Mat} (hW : explM l s = some W) {a b : Nat} (ha : a < l.gives.length + 2) (hb : b < l.gives.length + 2) : spanM W a b = ⟨-ent W b a, ent W a b⟩ := by
 have := expl_bd h hW hb ha
 unfold spanM
 rw [w64_eq (by omega), Int.zero_sub]
theorem flow_spn {l : LLine} (h : Lw l) {s : List Int} {W : Mat} (hW : explM l s = some W) {p : Nat} (hp : p ≤ l.gives.length) : Spn (Fl l s) (fun f => f p) (spanM W (l.gives.length + 1) p) := by
 rw [span_eq h hW (by omega) (by omega)]
 have h1 := expl_mx h hW (a := l.gives.length + 1) (b := p) (by omega) (by omega)
 have h2 := expl_mx h hW (a := p) (b := l.gives.length + 1) (by omega) (by omega)
 have e1 : ∀ f, ex l f p = f p := fun f => by unfold ex; rw [if_pos hp]
 have e2 : ∀ f, ex l f (l.gives.length + 1) = 0 := fun f => by unfold ex; rw [if_neg (by omega)]
 simp only [e1, e2] at h1 h2
 obtain ⟨f1, p1, q1⟩ := h1.2
 obtain ⟨f2, p2, q2⟩ := h2.2
 refine ⟨fun f hf => ?_, ⟨f2, p2, ?_⟩, ⟨f1, p1, ?_⟩⟩
 ·have := h1.1 f hf; have := h2.1 f hf
  simp only at *; omega
 ·simp only at *; omega
 ·simp only at *; omega
theorem lost_eq {l : LLine} (h : Lw l) {s : List Int} {W : Mat} (hW : explM l s = some W) {a b : Nat} (hab : a ≤ b) (hb : b ≤ l.gives.length) : lostS l W a b = ⟨-ent W a b - (gsum l b - gsum l a), ent W b a - (gsum l b - gsum l a)⟩ := by
 have hp := h.pts
 have h1 := expl_bd h hW (a := a) (b := b) (by omega) (by omega)
 have h2 := expl_bd h hW (a := b) (b := a) (by omega) (by omega)
 have h3 := gsum_bd h a
 have h4 := gsum_bd h b
 have e := sumW_eq h (a := a) (b - a) (by omega)
 rw [show a + (b - a) = b by omega] at e
 unfold lostS
 rw [span_eq h hW (by omega) (by omega), e]
 simp only
 rw [w64_eq (by omega), w64_eq (by omega)]
def lossF (l : LLine) (a b : Nat) (f : Nat → Int) : Int := f a - f b - (gsum l b - gsum l a)
theorem lost_spn {l : LLine} (h : Lw l) {s : List Int} {W : Mat} (hW : explM l s = some W) {a b : Nat} (hab : a ≤ b) (hb : b ≤ l.gives.length) : Spn (Fl l s) (lossF l a b) (lostS l W a b) := by
 rw [lost_eq h hW hab hb]
 have h1 := expl_mx h hW (a := a) (b := b) (by omega) (by omega)
 have h2 := expl_mx h hW (a := b) (b := a) (by omega) (by omega)
 have e1 : ∀ f, ex l f a = f a := fun f => by unfold ex; rw [if_pos (by omega)]
 have e2 : ∀ f, ex l f b = f b := fun f => by unfold ex; rw [if_pos (by omega)]
 simp only [e1, e2] at h1 h2
 obtain ⟨f1, p1, q1⟩ := h1.2
 obtain ⟨f2, p2, q2⟩ := h2.2
 unfold lossF
 refine ⟨fun f hf => ?_, ⟨f1, p1, ?_⟩, ⟨f2, p2, ?_⟩⟩
 ·have := h1.1 f hf; have := h2.1 f hf
  simp only at *; omega
 ·simp only at *; omega
 ·simp only at *; omega
def Fa (l : LLine) (f : Nat → Int) : Prop := ∃ s, s ∈ setsL l.gives.length ∧ (s.length : Int) ≤ l.taps ∧ Fl l s f
theorem fa_iff {l : LLine} (h : Lw l) (f : Nat → Int) : (∃ t, t ∈ theftsL l ∧ Fl l t.1 f) ↔ Fa l f := by
 constructor
 ·rintro ⟨t, ht, hf⟩
  obtain ⟨h1, h2⟩ := mem_thefts.1 ht
  exact ⟨t.1, h1, ((expl_iff h t.1).1 (by rw [h2]; rfl)).1, hf⟩
 ·rintro ⟨s, hs, ht, hf⟩
  have := (expl_iff h s).2 ⟨ht, f, hf⟩
  obtain ⟨W, hW⟩ := Option.isSome_iff_exists.1 this
  exact ⟨(s, W), mem_thefts.2 ⟨hs, hW⟩, hf⟩
theorem poss_len {l : LLine} : possB l = true ↔ 0 < (theftsL l).length := by
 unfold possB; rw [decide_eq_true_iff]
theorem flows_spn {l : LLine} (h : Lw l) (hp : possB l = true) {p : Nat} (hpt : p ≤ l.gives.length) : Spn (Fa l) (fun f => f p) (flowsS l p) :=
 (over_spn (P := fun t => Fl l t.1) (poss_len.1 hp) fun t ht => flow_spn h (mem_thefts.1 ht).2 hpt).imp (fa_iff h)
theorem lostAll_spn {l : LLine} (h : Lw l) (hp : possB l = true) {a b : Nat} (hab : a ≤ b) (hb : b ≤ l.gives.length) : Spn (Fa l) (lossF l a b) (lostAll l a b) :=
 (over_spn (P := fun t => Fl l t.1) (poss_len.1 hp) fun t ht => lost_spn h (mem_thefts.1 ht).2 hab hb).imp (fa_iff h)
def dropS (V : Mat) (a b : Nat) : Span := ⟨w64 (0 - ent V a b), ent V b a⟩
def rFlows (l : LLine) (p : Nat) : Span := (rSets l).foldl (fun o s => joinS o (dropS (withV l s) (p + 1) 0)) ⟨400, 0⟩
def lossK (l : LLine) (sp : Span) (a : Nat) : Nat → Span
 | 0 => sp
 | k + 1 => ⟨w64 ((lossK l sp a k).low - l.gives.getD (a + k) 0), w64 ((lossK l sp a k).high - l.gives.getD (a + k) 0)⟩
def rLoss (l : LLine) (V : Mat) (a b : Nat) : Span := lossK l (dropS V (a + 1) (b + 1)) a (b - a)
def rLost (l : LLine) (a b : Nat) : Span := (rSets l).tail.foldl (fun o s => joinS o (rLoss l (withV l s) a b)) (rLoss l (withV l ((rSets l).headD [])) a b)
theorem with_bd {l : LLine} (h : Lw l) {s : List Int} (hW : withB l s = true) {a b : Nat} (ha : a < l.gives.length + 2) (hb : b < l.gives.length + 2) : -400 ≤ ent (withV l s) a b ∧ ent (withV l s) a b ≤ 400 := by
 obtain ⟨f, hf, e⟩ := (with_mx h hW ha hb).2
 have e : rx f b - rx f a = ent (withV l s) a b := e
 have key : ∀ p, p < l.gives.length + 2 → 0 ≤ rx f p ∧ rx f p ≤ 400 := fun p hp => by
  unfold rx
  split
  ·omega
  ·exact hf.bd h (by omega)
 have := key a ha; have := key b hb
 omega
theorem drop_eq {l : LLine} (h : Lw l) {s : List Int} (hW : withB l s = true) {a b : Nat} (ha : a < l.gives.length + 2) (hb : b < l.gives.length + 2) : dropS (withV l s) a b = ⟨-ent (withV l s) a b, ent (withV l s) b a⟩ := by
 have := with_bd h hW ha hb
 unfold dropS
 rw [w64_eq (by omega), Int.zero_sub]
theorem rflow_spn {l : LLine} (h : Lw l) {s : List Int} (hW : withB l s = true) {p : Nat} (hp : p ≤ l.gives.length) : Spn (Fl l s) (fun f => f p) (dropS (withV l s) (p + 1) 0) := by
 rw [drop_eq h hW (by omega) (by omega)]
 have h1 := with_mx h hW (a := 0) (b := p + 1) (by omega) (by omega)
 have h2 := with_mx h hW (a := p + 1) (b := 0) (by omega) (by omega)
 have e1 : ∀ f, rx f (p + 1) = f p := fun f => by unfold rx; rw [if_neg (by omega), Nat.add_sub_cancel]
 have e2 : ∀ f, rx f 0 = 0 := fun f => rfl
 simp only [e1, e2] at h1 h2
 obtain ⟨f1, p1, q1⟩ := h1.2
 obtain ⟨f2, p2, q2⟩ := h2.2
 refine ⟨fun f hf => ?_, ⟨f2, p2, ?_⟩, ⟨f1, p1, ?_⟩⟩
 ·have := h1.1 f hf; have := h2.1 f hf
  simp only at *; omega
 ·simp only at *; omega
 ·simp only at *; omega
theorem lossK_eq {l : LLine} (h : Lw l) {sp : Span} (h1 : -1000 ≤ sp.low ∧ sp.low ≤ 1000) (h2 : -1000 ≤ sp.high ∧ sp.high ≤ 1000) (a : Nat) : ∀ k : Nat, a + k ≤ 1000 → lossK l sp a k = ⟨sp.low - (gsum l (a + k) - gsum l a), sp.high - (gsum l (a + k) - gsum l a)⟩
 | 0, hk => by simp [lossK]
 | k + 1, hk => by
  have h3 := gsum_bd h a
  have h4 := gsum_bd h (a + k)
  have h5 := h.give (a + k)
  unfold lossK
  rw [lossK_eq h h1 h2 a k (by omega)]
  simp only
  rw [w64_eq (by omega), w64_eq (by omega), show a + (k + 1) = a + k + 1 by omega]
  show (⟨_, _⟩ : Span) = ⟨sp.low - (gsum l (a + k) + _ - gsum l a), sp.high - (gsum l (a + k) + _ - gsum l a)⟩
  congr 1 <;> omega
theorem rloss_spn {l : LLine} (h : Lw l) {s : List Int} (hW : withB l s = true) {a b : Nat} (hab : a ≤ b) (hb : b ≤ l.gives.length) : Spn (Fl l s) (lossF l a b) (rLoss l (withV l s) a b) := by
 have hp := h.pts
 have b1 := with_bd h hW (a := a + 1) (b := b + 1) (by omega) (by omega)
 have b2 := with_bd h hW (a := b + 1) (b := a + 1) (by omega) (by omega)
 unfold rLoss
 rw [drop_eq h hW (by omega) (by omega), lossK_eq h (by simp only; omega) (by simp only; omega) a (b - a) (by omega), show a + (b - a) = b by omega]
 have h1 := with_mx h hW (a := a + 1) (b := b + 1) (by omega) (by omega)
 have h2 := with_mx h hW (a := b + 1) (b := a + 1) (by omega) (by omega)
 have e1 : ∀ f, rx f (a + 1) = f a := fun f => by unfold rx; rw [if_neg (by omega), Nat.add_sub_cancel]
 have e2 : ∀ f, rx f (b + 1) = f b := fun f => by unfold rx; rw [if_neg (by omega), Nat.add_sub_cancel]
 simp only [e1, e2] at h1 h2
 obtain ⟨f1, p1, q1⟩ := h1.2
 obtain ⟨f2, p2, q2⟩ := h2.2
 unfold lossF
 refine ⟨fun f hf => ?_, ⟨f1, p1, ?_⟩, ⟨f2, p2, ?_⟩⟩
 ·have := h1.1 f hf; have := h2.1 f hf
  simp only at *; omega
 ·simp only at *; omega
 ·simp only at *; omega
theorem rfa_iff {l : LLine} (h : Lw l) (f : Nat → Int) : (∃ s, s ∈ rSets l ∧ Fl l s f) ↔ Fa l f := by
 unfold rSets Fa
 constructor
 ·rintro ⟨s, hs, hf⟩
  obtain ⟨h1, h2⟩ := List.mem_filter.1 hs
  exact ⟨s, h1, ((withB_iff h s).1 h2).1, hf⟩
 ·rintro ⟨s, hs, ht, hf⟩
  exact ⟨s, List.mem_filter.2 ⟨hs, (withB_iff h s).2 ⟨ht, f, hf⟩⟩, hf⟩
theorem rSets_pos {l : LLine} (h : Lw l) (hp : possB l = true) : 0 < (rSets l).length := by
 rw [← rPoss_eq h] at hp
 unfold rPoss at hp
 simpa using hp
theorem rSets_with {l : LLine} {s : List Int} (hs : s ∈ rSets l) : withB l s = true := (List.mem_filter.1 hs).2
theorem rFlows_eq {l : LLine} (h : Lw l) (hp : possB l = true) {p : Nat} (hpt : p ≤ l.gives.length) : rFlows l p = flowsS l p := by
 refine Spn.uniq (P := Fa l) (g := fun f => f p) ?_ (flows_spn h hp hpt)
 refine Spn.imp ?_ (rfa_iff h)
 have hall : ∀ s ∈ rSets l, Spn (Fl l s) (fun f => f p) (dropS (withV l s) (p + 1) 0) := fun s hs => rflow_spn h (rSets_with hs) hpt
 have hne := rSets_pos h hp
 unfold rFlows
 cases hL : rSets l with
 | nil => rw [hL] at hne; cases hne
 | cons s L =>
  rw [hL] at hall
  have h0 := hall s List.mem_cons_self
  rw [List.foldl_cons]
  have e : joinS ⟨400, 0⟩ (dropS (withV l s) (p + 1) 0) = dropS (withV l s) (p + 1) 0 := by
   obtain ⟨f1, p1, e1⟩ := h0.lo
   obtain ⟨f2, p2, e2⟩ := h0.hi
   have h1 := p1.bd h hpt
   have h2 := p2.bd h hpt
   generalize dropS (withV l s) (p + 1) 0 = d at *
   cases d with
   | mk lo hi =>
    simp only at e1 e2
    unfold joinS
    simp only
    congr 1
    ·split <;> omega
    ·split <;> omega
  rw [e]
  refine (Spn.fold L h0 fun t ht => hall t (List.mem_cons_of_mem _ ht)).imp fun x => ?_
  constructor
  ·rintro (hx | ⟨t, ht, hx⟩)
   ·exact ⟨s, List.mem_cons_self, hx⟩
   ·exact ⟨t, List.mem_cons_of_mem _ ht, hx⟩
  ·rintro ⟨t, ht, hx⟩
   rcases List.mem_cons.1 ht with rfl | ht
   ·exact .inl hx
   ·exact .inr ⟨t, ht, hx⟩
theorem rLost_eq {l : LLine} (h : Lw l) (hp : possB l = true) {a b : Nat} (hab : a ≤ b) (hb : b ≤ l.gives.length) : rLost l a b = lostAll l a b := by
 refine Spn.uniq (P := Fa l) (g := lossF l a b) ?_ (lostAll_spn h hp hab hb)
 refine Spn.imp ?_ (rfa_iff h)
 have hall : ∀ s ∈ rSets l, Spn (Fl l s) (lossF l a b) (rLoss l (withV l s) a b) := fun s hs => rloss_spn h (rSets_with hs) hab hb
 have hne := rSets_pos h hp
 unfold rLost
 cases hL : rSets l with
 | nil => rw [hL] at hne; cases hne
 | cons s L =>
  rw [hL] at hall
  refine (Spn.fold L (hall s List.mem_cons_self) fun t ht => hall t (List.mem_cons_of_mem _ ht)).imp fun x => ?_
  constructor
  ·rintro (hx | ⟨t, ht, hx⟩)
   ·exact ⟨s, List.mem_cons_self, hx⟩
   ·exact ⟨t, List.mem_cons_of_mem _ ht, hx⟩
  ·rintro ⟨t, ht, hx⟩
   rcases List.mem_cons.1 ht with rfl | ht
   ·exact .inl hx
   ·exact .inr ⟨t, ht, hx⟩
theorem rExpl_eq {l : LLine} (h : Lw l) {s : List Int} {W : Mat} (hW : explM l s = some W) : rLoss l (withV l s) 0 l.gives.length = lostS l W 0 l.gives.length :=
 Spn.uniq (rloss_spn h (some_with h hW) (Nat.zero_le _) (Nat.le_refl _)) (lost_spn h hW (Nat.zero_le _) (Nat.le_refl _))
end Go.Av.Fx
end
section
namespace Go.Av.Fx
open Go Go.Av Go.Av.Tb Go.Proofs
end Go.Av.Fx
end
section
namespace Go.Av.Fx
open Go Go.Av Go.Proofs
open Go.Fw (Sq ent Bd Mat Tells Good)
end Go.Av.Fx
end
section
namespace Go.Av.Fx
open Go Go.Av Go.Proofs
open Go.Fw (Sq ent Bd Mat Tells Good)
end Go.Av.Fx
end
section
namespace Go.Av.Fx
open Go Go.Av Go.Av.Tb Go.Proofs
theorem askE_cases (l : LLine) (fine : Bool) : (askE l fine = 2 ∧ (isLineB l = false ∨ fine = false)) ∨ (askE l fine = 7 ∧ isLineB l = true ∧ fine = true ∧ possB l = false) ∨ (askE l fine = 0 ∧ isLineB l = true ∧ fine = true ∧ possB l = true) := by
 unfold askE
 cases isLineB l <;> cases fine <;> cases possB l <;> simp
end Go.Av.Fx
end
section
namespace Go.Av.Fx
open Go Go.Av Go.Av.Tb Go.Proofs
theorem eq42 (a b c d : Int) : binA T .eql 42 (.agg [.int .i64 a, .int .i64 b]) (.agg [.int .i64 c, .int .i64 d]) = some (.bool (decide (a = c) && decide (b = d))) := by
 have : binA T .eql 42 (.agg [.int .i64 a, .int .i64 b]) (.agg [.int .i64 c, .int .i64 d]) = (if (a == c) = true then (if (b == d) = true then some true else some false) else some false).map AV.bool := rfl
 rw [this]
 by_cases h1 : a = c <;> by_cases h2 : b = d <;> simp [h1, h2]
end Go.Av.Fx
end
section
namespace Go.Av.Fx
open Go Go.Av Go.Av.Tb Go.Proofs
open Go.Fw (Sq ent Bd Mat)
theorem rjoin_pc (a b : Span) : PC Tryz.prog 92 [spA a, spA b] (.pure (spA (joinS a b))) := by
 refine PC.of_empty (AC.run (E_ok _) mix Tryz.func92 m92 rfl rfl rfl (Nat.le_of_ble_eq_true rfl) ?_) (by simp [bndL, AV.bnd]) rfl
 simp only [go_sem, boxA, builtinA, minsA, maxsA, Tryz.f92, reduceEqDiff, Nat.reduceBEq, reduceAdd, reduceIte, reduceCtorEq, reduceLeDiff]
 rfl
theorem rdrop_pc {n : Nat} {W : Mat} (h : Sq n W) {a b : Nat} (ha : a < n) (hb : b < n) : PC Tryz.prog 93 [wS W, .int .i64 a, .int .i64 b] (.pure (spA (dropS W a b))) := by
 refine PC.of_empty (AC.run (E_ok _) mix Tryz.func93 m93 rfl rfl rfl (Nat.le_of_ble_eq_true rfl) ?_) (by simp [bndL, AV.bnd]) rfl
 have xa : 0 ≤ (a : Int) ∧ (a : Int) < (W.length : Int) := by rw [h.1]; omega
 have xb : 0 ≤ (b : Int) ∧ (b : Int) < (W.length : Int) := by rw [h.1]; omega
 have ya : 0 ≤ (a : Int) ∧ (a : Int) < ((W.getD b []).length : Int) := by rw [h.getD hb]; omega
 have yb : 0 ≤ (b : Int) ∧ (b : Int) < ((W.getD a []).length : Int) := by rw [h.getD ha]; omega
 have ra := wS_get h ha
 have rb := wS_get h hb
 have ea := ints_ent h ha hb
 have eb := ints_ent h hb ha
 simp only [go_sem, boxA, xa, xb, ya, yb, ra, rb, ea, eb, nat_idx, unA, Tryz.f93, reduceEqDiff, Nat.reduceBEq, reduceAdd, reduceIte, reduceCtorEq, reduceLeDiff]
 rfl
theorem rloss_pc (l : LLine) (h : Lw l) (s : List Int) (hs : s.length ≤ 1000) (a b : Nat) (hab : a ≤ b) (hb : b ≤ l.gives.length) :
  PC Tryz.prog 91 [lineA l, sl s, .int .i64 a, .int .i64 b] (.pure (spA (rLoss l (withV l s) a b))) := by
 have hp := h.pts
 refine PC.of_empty (AC.run (E_ok _) mix Tryz.func91 m91 rfl rfl rfl (Nat.le_of_ble_eq_true rfl) ?_) (by simp [bndL, AV.bnd]) rfl
 simp only [go_sem, boxA, reduceEqDiff, Nat.reduceBEq, reduceAdd, reduceIte, reduceCtorEq, reduceLeDiff]
 refine cp n79 (with_pc l h s hs) (SubL.refl _) ?_
 have w1 : IntKind.i64.wrap ((a : Int) + 1) = (a + 1 : Nat) := wrap64 (by omega)
 have w2 : IntKind.i64.wrap ((b : Int) + 1) = (b + 1 : Nat) := wrap64 (by omega)
 simp only [go_sem, withA, extractA, w1, w2, reduceEqDiff, Nat.reduceBEq, reduceAdd, reduceIte, reduceCtorEq, reduceLeDiff]
 refine cp n93 (rdrop_pc (withV_sq h s) (by omega : a + 1 < _) (by omega : b + 1 < _)) (SubL.refl _) ?_
 unfold rLoss
 generalize dropS (withV l s) (a + 1) (b + 1) = d
 simp only [go_sem, put_eq, reduceEqDiff, Nat.reduceBEq, reduceAdd, reduceIte, reduceCtorEq, reduceLeDiff]
 obtain ⟨m, rfl⟩ : ∃ m, b = a + m := ⟨b - a, by omega⟩
 rw [Nat.add_sub_cancel_left]
 refine wc_for m (fun k => [(3, .int .i64 (a + m : Nat)), (4, .ref 0 0), (8, .ref 1 0), (11, .ref 2 0), (12, .int .i64 (a + k : Nat))]) (fun k => ⟨[some (.cells (lineC l)), some (.cells [.int .i64 0, .int .i64 0]), some (.cells [.int .i64 (lossK l d a k).low, .int .i64 (lossK l d a k).high])], 0, []⟩) rfl rfl ?_
 intro k hk I hI
 by_cases h' : k < m
 ·have h1 : ((a + k : Nat) : Int) < (a + m : Nat) := by omega
  have h2 : 0 ≤ ((a + k : Nat) : Int) ∧ ((a + k : Nat) : Int) < l.gives.length := by omega
  have h3 : l.gives[a + k]? = some (l.gives.getD (a + k) 0) := by rw [List.getD_eq_getElem?_getD, List.getElem?_eq_getElem (by omega)]; rfl
  have h4 : IntKind.i64.wrap (((a + k : Nat) : Int) + 1) = (a + (k + 1) : Nat) := wrap64 (by omega)
  have hI := hI h'
  simp only [go_sem, l91_0, h1, decide_true, h2, ints_get, h3, Option.map_some, h4, put_eq, reduceEqDiff, Nat.reduceBEq, reduceAdd, reduceIte, reduceCtorEq, reduceLeDiff]
  exact hI
 ·have h1 : ¬ ((a + k : Nat) : Int) < (a + m : Nat) := by omega
  have ek : k = m := by omega
  subst ek
  simp only [go_sem, l91_0, h1, decide_false, put_eq, Tryz.f91, reduceEqDiff, Nat.reduceBEq, reduceAdd, reduceIte, reduceCtorEq, reduceLeDiff]
theorem rExplains_pc (l : LLine) (h : Lw l) (s : List Int) (hs : s.length ≤ 1000) : PC Tryz.prog 36 [lineA l, sl s] (.pure (.tuple [spA (if withB l s = true then rLoss l (withV l s) 0 l.gives.length else ⟨0, 0⟩), .bool (withB l s)])) := by
 have hp := h.pts
 refine PC.of_empty (AC.run (E_ok _) mix Tryz.func36 m36 rfl rfl rfl (Nat.le_of_ble_eq_true rfl) ?_) (by simp [bndL, AV.bnd]) (by simp [bndL, AV.bnd])
 simp only [go_sem, boxA, reduceEqDiff, Nat.reduceBEq, reduceAdd, reduceIte, reduceCtorEq, reduceLeDiff]
 refine cp n79 (with_pc l h s hs) (SubL.refl _) ?_
 cases hW : withB l s
 ·simp only [go_sem, withA, hW, extractA, un_not, Bool.not_false, put_eq, Tryz.f36, reduceEqDiff, Nat.reduceBEq, reduceAdd, reduceIte, reduceCtorEq, reduceLeDiff]
 ·simp only [go_sem, withA, hW, extractA, un_not, Bool.not_true, builtinA, reduceEqDiff, Nat.reduceBEq, reduceAdd, reduceIte, reduceCtorEq, reduceLeDiff]
  refine cp n91 (rloss_pc l h s hs 0 l.gives.length (Nat.zero_le _) (Nat.le_refl _)) (SubL.refl _) ?_
  simp only [go_sem, put_eq, Tryz.f36, reduceEqDiff, Nat.reduceBEq, reduceAdd, reduceIte, reduceCtorEq, reduceLeDiff]
theorem rSets_sz {l : LLine} (h : Lw l) : (rSets l).length ≤ 100 ∧ ∀ s ∈ rSets l, s.length ≤ 1000 := by
 rw [rSets_eq h]
 refine ⟨?_, fun s hs => ?_⟩
 ·rw [setsOut_eq]
  exact Nat.le_trans (List.length_filter_le _ _) (setsL_len5 h.pts.2)
 ·exact setsL_sz h.pts.2 s ((mem_setsOut h).1 hs).1
theorem rFlows_pc (l : LLine) (h : Lw l) (p : Nat) (hp : p ≤ l.gives.length) : PC Tryz.prog 38 [lineA l, .int .i64 p] (.pure (spA (rFlows l p))) := by
 have hpt := h.pts
 refine PC.of_empty (AC.run (E_ok _) mix Tryz.func38 m38 rfl rfl rfl (Nat.le_of_ble_eq_true rfl) ?_) (by simp [bndL, AV.bnd]) rfl
 simp only [go_sem, boxA, reduceEqDiff, Nat.reduceBEq, reduceAdd, reduceIte, reduceCtorEq, reduceLeDiff]
 refine cp n27 (rSets_pc l h) (SubL.refl _) ?_
 obtain ⟨hl, hs⟩ := rSets_sz h
 unfold rFlows
 generalize rSets l = L at *
 simp only [go_sem, put_eq, reduceEqDiff, Nat.reduceBEq, reduceAdd, reduceIte, reduceCtorEq, reduceLeDiff]
 refine wc_for L.length (fun k => [(1, .int .i64 p), (2, .ref 0 0), (4, .ref 1 0), (5, sll L), (6, .ref 2 0), (7, .int .i64 k)]) (fun k => ⟨[some (.cells (lineC l)), some (.cells [.int .i64 0, .int .i64 0]),
  some (.cells [.int .i64 ((L.take k).foldl (fun o s => joinS o (dropS (withV l s) (p + 1) 0)) ⟨400, 0⟩).low, .int .i64 ((L.take k).foldl (fun o s => joinS o (dropS (withV l s) (p + 1) 0)) ⟨400, 0⟩).high])], 0, []⟩) rfl rfl ?_
 intro k hk I hI
 by_cases h' : k < L.length
 ·have h1 : (k : Int) < L.length := by omega
  have h2 : 0 ≤ (k : Int) ∧ (k : Int) < L.length := by omega
  have h3 : L[k]? = some L[k] := List.getElem?_eq_getElem h'
  have h4 : IntKind.i64.wrap ((k : Int) + 1) = (k + 1 : Nat) := wrap64 (by omega)
  have w1 : IntKind.i64.wrap ((p : Int) + 1) = (p + 1 : Nat) := wrap64 (by omega)
  have hI := hI h'
  rw [foldl_take _ _ _ _ h'] at hI
  generalize (L.take k).foldl (fun o s => joinS o (dropS (withV l s) (p + 1) 0)) ⟨400, 0⟩ = o at hI
  simp only [go_sem, l38_0, builtinA, h1, decide_true, h2, sls_get, h3, Option.map_some, reduceEqDiff, Nat.reduceBEq, reduceAdd, reduceIte, reduceCtorEq, reduceLeDiff]
  refine qp n79 (with_pc l h L[k] (hs _ (List.getElem_mem h'))) (SubL.refl _) ?_
  simp only [go_sem, withA, extractA, w1, reduceEqDiff, Nat.reduceBEq, reduceAdd, reduceIte, reduceCtorEq, reduceLeDiff]
  refine qp n93 (rdrop_pc (b := 0) (withV_sq h L[k]) (by omega : p + 1 < _) (by omega)) (SubL.refl _) ?_
  simp only [go_sem, reduceEqDiff, Nat.reduceBEq, reduceAdd, reduceIte, reduceCtorEq, reduceLeDiff]
  refine cp n92 (rjoin_pc o _) (SubL.refl _) ?_
  simp only [go_sem, put_eq, h4, reduceEqDiff, Nat.reduceBEq, reduceAdd, reduceIte, reduceCtorEq, reduceLeDiff]
  exact hI
 ·have h1 : ¬ (k : Int) < L.length := by omega
  have ek : k = L.length := by omega
  subst ek
  rw [List.take_length]
  simp only [go_sem, l38_0, builtinA, h1, decide_false, put_eq, Tryz.f38, reduceEqDiff, Nat.reduceBEq, reduceAdd, reduceIte, reduceCtorEq, reduceLeDiff]
theorem rLost_pc (l : LLine) (h : Lw l) (hp : 0 < (rSets l).length) (a b : Nat) (hab : a ≤ b) (hb : b ≤ l.gives.length) : PC Tryz.prog 39 [lineA l, .int .i64 a, .int .i64 b] (.pure (spA (rLost l a b))) := by
 have hpt := h.pts
 refine PC.of_empty (AC.run (E_ok _) mix Tryz.func39 m39 rfl rfl rfl (Nat.le_of_ble_eq_true rfl) ?_) (by simp [bndL, AV.bnd]) rfl
 simp only [go_sem, boxA, reduceEqDiff, Nat.reduceBEq, reduceAdd, reduceIte, reduceCtorEq, reduceLeDiff]
 refine cp n27 (rSets_pc l h) (SubL.refl _) ?_
 obtain ⟨hl, hs⟩ := rSets_sz h
 unfold rLost
 generalize rSets l = L at *
 obtain ⟨x, L, rfl⟩ : ∃ x L', L = x :: L' := by
  cases L with
  | nil => simp at hp
  | cons x L => exact ⟨x, L, rfl⟩
 have z0 : (0 : Int) ≤ 0 ∧ (0 : Int) < ((x :: L).length : Int) := by simp
 have z1 : (sls (x :: L))[Int.toNat 0]? = some (sl x) := rfl
 rw [List.length_cons] at z0 hl
 simp only [go_sem, z0, z1, reduceEqDiff, Nat.reduceBEq, reduceAdd, reduceIte, reduceCtorEq, reduceLeDiff]
 refine qp n91 (rloss_pc l h x (hs _ List.mem_cons_self) a b hab hb) (SubL.refl _) ?_
 simp only [go_sem, put_eq, reduceEqDiff, Nat.reduceBEq, reduceAdd, reduceIte, reduceCtorEq, reduceLeDiff]
 rw [List.headD_cons, List.tail_cons]
 refine wc_for L.length (fun k => [(1, .int .i64 a), (2, .int .i64 b), (3, .ref 0 0), (6, .ref 1 0), (7, sll (x :: L)), (8, .ref 2 0), (9, .int .i64 (k + 1 : Nat))]) (fun k => ⟨[some (.cells (lineC l)), some (.cells [.int .i64 0, .int .i64 0]),
  some (.cells [.int .i64 ((L.take k).foldl (fun o s => joinS o (rLoss l (withV l s) a b)) (rLoss l (withV l x) a b)).low, .int .i64 ((L.take k).foldl (fun o s => joinS o (rLoss l (withV l s) a b)) (rLoss l (withV l x) a b)).high])], 0, []⟩) rfl rfl ?_
 intro k hk I hI
 by_cases h' : k < L.length
 ·have h1 : ((k + 1 : Nat) : Int) < (L.length + 1 : Nat) := by omega
  have h2 : 0 ≤ ((k + 1 : Nat) : Int) ∧ ((k + 1 : Nat) : Int) < (L.length + 1 : Nat) := by omega
  have h3 : (x :: L)[k + 1]? = some L[k] := by rw [List.getElem?_cons_succ]; exact List.getElem?_eq_getElem h'
  have h4 : IntKind.i64.wrap (((k + 1 : Nat) : Int) + 1) = (k + 1 + 1 : Nat) := wrap64 (by omega)
  have hI := hI h'
  rw [foldl_take _ _ _ _ h'] at hI
  generalize (L.take k).foldl (fun o s => joinS o (rLoss l (withV l s) a b)) (rLoss l (withV l x) a b) = o at hI
  simp only [go_sem, l39_0, builtinA, h1, decide_true, h2, sls_get, h3, Option.map_some, reduceEqDiff, Nat.reduceBEq, reduceAdd, reduceIte, reduceCtorEq, reduceLeDiff]
  refine qp n91 (rloss_pc l h L[k] (hs _ (List.mem_cons_of_mem _ (List.getElem_mem h'))) a b hab hb) (SubL.refl _) ?_
  simp only [go_sem, reduceEqDiff, Nat.reduceBEq, reduceAdd, reduceIte, reduceCtorEq, reduceLeDiff]
  refine cp n92 (rjoin_pc o _) (SubL.refl _) ?_
  simp only [go_sem, put_eq, h4, reduceEqDiff, Nat.reduceBEq, reduceAdd, reduceIte, reduceCtorEq, reduceLeDiff]
  exact hI
 ·have h1 : ¬ ((k + 1 : Nat) : Int) < (L.length + 1 : Nat) := by omega
  have ek : k = L.length := by omega
  subst ek
  rw [List.take_length]
  simp only [go_sem, l39_0, builtinA, h1, decide_false, put_eq, Tryz.f39, reduceEqDiff, Nat.reduceBEq, reduceAdd, reduceIte, reduceCtorEq, reduceLeDiff]
end Go.Av.Fx
end
