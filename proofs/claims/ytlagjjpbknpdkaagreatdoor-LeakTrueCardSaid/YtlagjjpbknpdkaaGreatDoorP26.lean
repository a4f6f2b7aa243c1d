/- Part 26 of the proof. -/
import Derived.Test.YtlagjjpbknpdkaaGreatDoorP25
import Derived.Test.YtlagjjpbknpdkaaGreatDoorP20
import Derived.Test.YtlagjjpbknpdkaaGreatDoorP23
import Derived.Test.YtlagjjpbknpdkaaGreatDoorP24
set_option linter.all false
set_option linter.unusedVariables false
set_option linter.unusedSimpArgs false
set_option linter.unusedSectionVars false
open Nat (reduceEqDiff reduceAdd reduceLeDiff)
section
namespace Go.Av.Fx
open Go Go.Av Go.Av.Tb Go.Proofs
theorem Sub.map {α : Type} (f g : α → AV) (h : ∀ a, Sub (f a) (g a)) (L : List α) (n : Nat) (t : Tail) : Sub (.slice (L.map f) n t) (.slice (L.map g) n .unk) := by
 intro c x hx
 generalize hl : L.map f = l at hx
 cases hx with
 | slice _ _ _ b off cap vs hc hk hr he ht =>
  subst hl
  refine .slice _ n .unk b off cap vs hc (fun j hj => hk j (by simpa using hj)) (fun j y hy => ?_) (fun e => by cases e) (fun k e => by cases e)
  rw [List.getElem?_map] at hy
  cases e : L[j]? with
  | none => rw [e] at hy; cases hy
  | some a =>
   rw [e] at hy; cases hy
   exact h a c _ (hr j (f a) (by rw [List.getElem?_map, e]; rfl))
 | sliceNil _ ht =>
  have : L = [] := by simpa using hl
  subst this
  exact .sliceNil .unk (fun k e => by cases e)
theorem askM : askE lineM true = 0 := by simp [askE, kM_line, kM_poss]
theorem okM : okLine lineM := ⟨by decide, by decide⟩
theorem okN : okLine lineN := ⟨by decide, by decide⟩
theorem q1 : PC Tryz.prog 41 [lineA lineN] (.pure (.tuple [.bool false, .int .i64 0])) := by
 have := Possible_pc lineN okN
 rw [kN_line, kN_poss] at this; exact this
theorem q2 : PC Tryz.prog 22 [lineA lineM] (.pure (.tuple [sll [[0], [1], [2]], .int .i64 0])) := by
 have := Sets_pc lineM okM
 unfold setsA at this
 rw [if_pos askM, kM_sets] at this; exact this
theorem q3 : PC Tryz.prog 21 [lineA lineM] (.pure (.tuple [sl [2, 2, 2], .int .i64 0])) := by
 have := Known_pc lineM okM
 unfold knownA at this
 rw [if_pos askM, show lineM.gives.length = 3 from rfl, kM_words] at this; exact this
theorem q4 : PC Tryz.prog 34 [lineA lineM, .int .i64 1] (.pure (.tuple [spA ⟨78, 94⟩, .int .i64 0])) := by
 have := Flows_pc lineM okM 1
 unfold flowsA at this
 rw [show inB 1 0 lineM.gives.length = true from rfl, if_pos askM, show Int.toNat 1 = 1 from rfl, kM_flows] at this; exact this
theorem q5 : PC Tryz.prog 35 [lineA lineM, .int .i64 0, .int .i64 3] (.pure (.tuple [spA ⟨8, 15⟩, .int .i64 0])) := by
 have := Lost_pc lineM okM 0 3
 unfold lostA at this
 rw [show fineLost lineM 0 3 = true from rfl, if_pos askM, show Int.toNat 0 = 0 from rfl, show Int.toNat 3 = 3 from rfl, kM_lost] at this; exact this
theorem q6 : PC Tryz.prog 30 [lineA lineM, sl [1]] (.pure (.tuple [spA ⟨8, 15⟩, .int .i64 0])) := by
 have := Explains_pc lineM okM [1] (by decide)
 unfold explA at this
 rw [if_pos ⟨kM_line, by decide⟩, if_pos (show isSetB lineM [1] = true by decide +kernel)] at this
 have h := kM_expl
 cases hx : explM lineM [1] with
 | none => rw [hx] at h; cases h
 | some W =>
  rw [hx] at h this
  have h : lostS lineM W 0 3 = ⟨8, 15⟩ := by simpa using h
  simp only [show lineM.gives.length = 3 from rfl, h] at this
  exact this
theorem q7 : PC Tryz.prog 43 [lineA lineM, .int .i64 2] (.pure (.tuple [.int .i64 1, .int .i64 2, .int .i64 0])) := by
 have := Next_pc lineM okM 2
 unfold nextA at this
 rw [show inB 2 0 20 = true from rfl, if_pos askM, kM_next] at this; exact this
theorem q8 : PC Tryz.prog 47 [lineA lineM, sl [1, 2], .int .i64 2] (.pure (.tuple [.bool true, .int .i64 0])) := by
 have := Tells_pc lineM okM [1, 2] (by decide) 2
 unfold tellsA at this
 rw [show fineTells lineM [1, 2] 2 = true by decide +kernel, if_pos askM, kM_tells] at this; exact this
theorem q9 : PC Tryz.prog 48 [lineA lineM, .int .i64 2] (.pure (.tuple [sl [1, 2], .int .i64 0])) := by
 have := Plan_pc lineM okM 2
 unfold planA at this
 rw [show inB 2 0 20 = true from rfl, if_pos askM, kM_plan] at this; exact this
theorem q10 : PC Tryz.prog 53 [lineA lineN] (.pure (.tuple [.int .i64 0, .int .i64 2, .int .i64 0])) := by
 have := Clash_pc lineN okN
 unfold clashA at this
 rw [if_pos kN_line, kN_clash] at this; exact this
theorem q11 : PC Tryz.prog 54 [lineA lineN] (.pure (.tuple [sl [0], .int .i64 0])) := by
 have := Wrong_pc lineN okN
 unfold wrongA at this
 rw [if_pos kN_line, kN_wrong] at this; exact this
theorem q12 : PC Tryz.prog 61 [.str exT] (.pure (.tuple [lineA lineT, .int .i64 0])) := by
 have := Read_pc exT (by decide)
 unfold readA at this
 rw [if_pos (by decide), kT] at this
 simp only [if_pos kT_line] at this
 exact this
theorem q13 : PC Tryz.prog 62 [lineA lineT] (.pure (.str exT)) := by
 have := rPrint_pc lineT (isLine_iff.1 kT_line).plain
 rw [kT_text] at this; exact this
@[go_sem] theorem ne42a : binA T .neq 42 (.agg [.int .i64 78, .int .i64 94]) (.agg [.int .i64 78, .int .i64 94]) = some (.bool false) := rfl
@[go_sem] theorem ne42b : binA T .neq 42 (.agg [.int .i64 8, .int .i64 15]) (.agg [.int .i64 8, .int .i64 15]) = some (.bool false) := rfl
set_option maxRecDepth 100000 in
theorem known_pc : PC Tryz.prog 20 [] (.pure (.bool true)) := by
 refine PC.of_empty (AC.run (E_ok _) mix Tryz.func20 m20 rfl rfl rfl (Nat.le_of_ble_eq_true rfl) ?_) rfl rfl
 simp only [go_sem, reduceEqDiff, Nat.reduceBEq, reduceAdd, reduceIte, reduceCtorEq, reduceLeDiff]
 refine cp n73 N_pc (SubL.refl _) ?_
 simp only [go_sem, reduceEqDiff, Nat.reduceBEq, reduceAdd, reduceIte, reduceCtorEq, reduceLeDiff]
 refine cp n41 q1 (SubL.refl _) ?_
 simp only [go_sem, extractA, reduceEqDiff, Nat.reduceBEq, reduceAdd, reduceIte, reduceCtorEq, reduceLeDiff]
 refine cp n74 M_pc (SubL.refl _) ?_
 simp only [go_sem, reduceEqDiff, Nat.reduceBEq, reduceAdd, reduceIte, reduceCtorEq, reduceLeDiff]
 refine cp n22 q2 (SubL.refl _) ?_
 simp only [go_sem, extractA, reduceEqDiff, Nat.reduceBEq, reduceAdd, reduceIte, reduceCtorEq, reduceLeDiff]
 refine cp n74 M_pc (SubL.refl _) ?_
 simp only [go_sem, reduceEqDiff, Nat.reduceBEq, reduceAdd, reduceIte, reduceCtorEq, reduceLeDiff]
 refine cp n21 q3 (SubL.refl _) ?_
 simp only [go_sem, extractA, reduceEqDiff, Nat.reduceBEq, reduceAdd, reduceIte, reduceCtorEq, reduceLeDiff]
 refine cp n74 M_pc (SubL.refl _) ?_
 simp only [go_sem, reduceEqDiff, Nat.reduceBEq, reduceAdd, reduceIte, reduceCtorEq, reduceLeDiff]
 refine cp n34 q4 (SubL.refl _) ?_
 simp only [go_sem, extractA, put_eq, reduceEqDiff, Nat.reduceBEq, reduceAdd, reduceIte, reduceCtorEq, reduceLeDiff]
 refine cp n74 M_pc (SubL.refl _) ?_
 simp only [go_sem, reduceEqDiff, Nat.reduceBEq, reduceAdd, reduceIte, reduceCtorEq, reduceLeDiff]
 refine cp n35 q5 (SubL.refl _) ?_
 simp only [go_sem, extractA, put_eq, reduceEqDiff, Nat.reduceBEq, reduceAdd, reduceIte, reduceCtorEq, reduceLeDiff]
 refine cp n74 M_pc (SubL.refl _) ?_
 simp only [go_sem, reduceEqDiff, Nat.reduceBEq, reduceAdd, reduceIte, reduceCtorEq, reduceLeDiff]
 refine cp n30 q6 (SubL.cons (Sub.refl _) (SubL.cons (Sub.unk _ _ _) (SubL.refl _))) ?_
 simp only [go_sem, extractA, put_eq, reduceEqDiff, Nat.reduceBEq, reduceAdd, reduceIte, reduceCtorEq, reduceLeDiff]
 refine cp n74 M_pc (SubL.refl _) ?_
 simp only [go_sem, reduceEqDiff, Nat.reduceBEq, reduceAdd, reduceIte, reduceCtorEq, reduceLeDiff]
 refine cp n43 q7 (SubL.refl _) ?_
 simp only [go_sem, extractA, reduceEqDiff, Nat.reduceBEq, reduceAdd, reduceIte, reduceCtorEq, reduceLeDiff]
 refine cp n74 M_pc (SubL.refl _) ?_
 simp only [go_sem, reduceEqDiff, Nat.reduceBEq, reduceAdd, reduceIte, reduceCtorEq, reduceLeDiff]
 refine cp n47 q8 (SubL.cons (Sub.refl _) (SubL.cons (Sub.unk _ _ _) (SubL.refl _))) ?_
 simp only [go_sem, extractA, reduceEqDiff, Nat.reduceBEq, reduceAdd, reduceIte, reduceCtorEq, reduceLeDiff]
 refine cp n74 M_pc (SubL.refl _) ?_
 simp only [go_sem, reduceEqDiff, Nat.reduceBEq, reduceAdd, reduceIte, reduceCtorEq, reduceLeDiff]
 refine cp n48 q9 (SubL.refl _) ?_
 simp only [go_sem, extractA, reduceEqDiff, Nat.reduceBEq, reduceAdd, reduceIte, reduceCtorEq, reduceLeDiff]
 refine cp n73 N_pc (SubL.refl _) ?_
 simp only [go_sem, reduceEqDiff, Nat.reduceBEq, reduceAdd, reduceIte, reduceCtorEq, reduceLeDiff]
 refine cp n53 q10 (SubL.refl _) ?_
 simp only [go_sem, extractA, reduceEqDiff, Nat.reduceBEq, reduceAdd, reduceIte, reduceCtorEq, reduceLeDiff]
 refine cp n73 N_pc (SubL.refl _) ?_
 simp only [go_sem, reduceEqDiff, Nat.reduceBEq, reduceAdd, reduceIte, reduceCtorEq, reduceLeDiff]
 refine cp n54 q11 (SubL.refl _) ?_
 simp only [go_sem, extractA, reduceEqDiff, Nat.reduceBEq, reduceAdd, reduceIte, reduceCtorEq, reduceLeDiff]
 refine cp n61 q12 (SubL.refl _) ?_
 have z0 : ¬ ((0 : Int) ≠ 0) := by decide
 simp only [go_sem, extractA, put_eq, z0, decide_false, reduceEqDiff, Nat.reduceBEq, reduceAdd, reduceIte, reduceCtorEq, reduceLeDiff]
 refine cp n26 (SameSets_pc [[0], [1], [2]] [[0], [1], [2]] (by decide) (by decide) (by decide) (by decide)) (SubL.cons (Sub.refl _) (SubL.cons (Sub.map (fun s => .slice (ints s) s.length .exact) sl (fun s => Sub.unk _ _ _) [[0], [1], [2]] 3 .exact) (SubL.refl _))) ?_
 rw [decide_eq_true rfl]
 simp only [go_sem, un_not, Bool.not_true, reduceEqDiff, Nat.reduceBEq, reduceAdd, reduceIte, reduceCtorEq, reduceLeDiff]
 refine cp n24 (SameWords_pc [2, 2, 2] [2, 2, 2] (by decide) (by decide)) (SubL.cons (Sub.refl _) (SubL.cons (Sub.unk _ _ _) (SubL.refl _))) ?_
 rw [decide_eq_true rfl]
 have z1 : decide ((1 : Int) = 1) = true := rfl
 have z2 : decide ((2 : Int) = 2) = true := rfl
 have z3 : decide ((0 : Int) = 0) = true := rfl
 simp only [go_sem, un_not, Bool.not_true, put_eq, z1, z2, z3, decide_true, reduceEqDiff, Nat.reduceBEq, reduceAdd, reduceIte, reduceCtorEq, reduceLeDiff]
 refine cp n50 (Same_pc [1, 2] [1, 2] (by decide) (by decide)) (SubL.cons (Sub.refl _) (SubL.cons (Sub.unk _ _ _) (SubL.refl _))) ?_
 rw [decide_eq_true rfl]
 simp only [go_sem, un_not, Bool.not_true, put_eq, z1, z2, z3, decide_true, reduceEqDiff, Nat.reduceBEq, reduceAdd, reduceIte, reduceCtorEq, reduceLeDiff]
 refine cp n50 (Same_pc [0] [0] (by decide) (by decide)) (SubL.cons (Sub.refl _) (SubL.cons (Sub.unk _ _ _) (SubL.refl _))) ?_
 rw [decide_eq_true rfl]
 simp only [go_sem, un_not, Bool.not_true, put_eq, z1, z2, z3, decide_true, reduceEqDiff, Nat.reduceBEq, reduceAdd, reduceIte, reduceCtorEq, reduceLeDiff]
 refine cp n62 q13 (SubL.refl _) ?_
 have z4 : binA T .eql 9 (.str exT) (.str ⟨#[108, 105, 110, 101, 32, 49, 32, 49, 32, 48, 10, 115, 116, 114, 101, 116, 99, 104, 32, 48, 10, 101, 110, 100, 32, 48, 53, 49, 10]⟩) = some (.bool true) := (show binA T .eql 9 (.str exT) (.str exT) = some (.bool true) by rw [eqS, decide_eq_true rfl])
 simp only [go_sem, z4, Tryz.f20, reduceEqDiff, Nat.reduceBEq, reduceAdd, reduceIte, reduceCtorEq, reduceLeDiff]
end Go.Av.Fx
end
section
namespace Go.Av.Fx
open Go Go.Av Go.Proofs
open Go.Fw (Sq ent Bd Mat Tells Good)
def gsum (l : LLine) : Nat → Int
 | 0 => 0
 | p + 1 => gsum l p + l.gives.getD p 0
theorem gsum_bd {l : LLine} (h : Lw l) : ∀ p : Nat, 0 ≤ gsum l p ∧ gsum l p ≤ 60 * p
 | 0 => ⟨Int.le_refl _, Int.le_refl _⟩
 | p + 1 => by
  have h1 := gsum_bd h p
  have h2 := h.give p
  show 0 ≤ gsum l p + _ ∧ gsum l p + _ ≤ _
  omega
theorem sumW_eq {l : LLine} (h : Lw l) {a : Nat} : ∀ k : Nat, a + k ≤ l.gives.length → sumW ((l.gives.drop a).take k) = gsum l (a + k) - gsum l a
 | 0, hk => by simp [sumW]
 | k + 1, hk => by
  have hp := h.pts
  have ih := sumW_eq h (a := a) k (by omega)
  have hl : k < (l.gives.drop a).length := by rw [List.length_drop]; omega
  unfold sumW at ih ⊢
  rw [foldl_take _ _ _ _ hl, ih]
  have e : (l.gives.drop a)[k] = l.gives.getD (a + k) 0 := by
   have hlt : a + k < l.gives.length := by omega
   rw [List.getElem_drop, List.getD_eq_getElem?_getD, List.getElem?_eq_getElem hlt]; rfl
  have h1 := gsum_bd h (a + k)
  have h2 := gsum_bd h a
  have h3 := h.give (a + k)
  rw [e, wrap64 (by omega), show a + (k + 1) = a + k + 1 by omega]
  show _ = gsum l (a + k) + _ - gsum l a
  omega
structure Spn (P : (Nat → Int) → Prop) (g : (Nat → Int) → Int) (sp : Span) : Prop where
 bd : ∀ f, P f → sp.low ≤ g f ∧ g f ≤ sp.high
 lo : ∃ f, P f ∧ g f = sp.low
 hi : ∃ f, P f ∧ g f = sp.high
theorem Spn.imp {P Q : (Nat → Int) → Prop} {g : (Nat → Int) → Int} {a : Span} (h : Spn P g a) (e : ∀ f, P f ↔ Q f) : Spn Q g a := by
 obtain ⟨f1, p1, e1⟩ := h.lo
 obtain ⟨f2, p2, e2⟩ := h.hi
 exact ⟨fun f hf => h.bd f ((e f).2 hf), ⟨f1, (e _).1 p1, e1⟩, ⟨f2, (e _).1 p2, e2⟩⟩
theorem Spn.join {P Q : (Nat → Int) → Prop} {g : (Nat → Int) → Int} {a b : Span} (h : Spn P g a) (h' : Spn Q g b) : Spn (fun f => P f ∨ Q f) g (joinS a b) := by
 obtain ⟨f1, p1, e1⟩ := h.lo
 obtain ⟨f2, p2, e2⟩ := h.hi
 obtain ⟨f3, p3, e3⟩ := h'.lo
 obtain ⟨f4, p4, e4⟩ := h'.hi
 unfold joinS
 refine ⟨?_, ?_, ?_⟩
 ·rintro f (hf | hf)
  ·have := h.bd f hf
   constructor
   ·show (if b.low < a.low then b.low else a.low) ≤ _; split <;> omega
   ·show _ ≤ (if b.high > a.high then b.high else a.high); split <;> omega
  ·have := h'.bd f hf
   constructor
   ·show (if b.low < a.low then b.low else a.low) ≤ _; split <;> omega
   ·show _ ≤ (if b.high > a.high then b.high else a.high); split <;> omega
 ·by_cases c : b.low < a.low
  ·exact ⟨f3, .inr p3, by show _ = if b.low < a.low then b.low else a.low; rw [if_pos c]; exact e3⟩
  ·exact ⟨f1, .inl p1, by show _ = if b.low < a.low then b.low else a.low; rw [if_neg c]; exact e1⟩
 ·by_cases c : b.high > a.high
  ·exact ⟨f4, .inr p4, by show _ = if b.high > a.high then b.high else a.high; rw [if_pos c]; exact e4⟩
  ·exact ⟨f2, .inl p2, by show _ = if b.high > a.high then b.high else a.high; rw [if_neg c]; exact e2⟩
theorem Spn.fold {α : Type} {P : α → (Nat → Int) → Prop} {g : (Nat → Int) → Int} {f : α → Span} : ∀ (L : List α) {Q : (Nat → Int) → Prop} {o : Span}, Spn Q g o → (∀ t ∈ L, Spn (P t) g (f t)) →
  Spn (fun x => Q x ∨ ∃ t, t ∈ L ∧ P t x) g (L.foldl (fun o t => joinS o (f t)) o)
 | [], Q, o, h, _ => h.imp fun x => ⟨.inl, fun hx => hx.elim id fun ⟨t, ht, _⟩ => by cases ht⟩
 | t :: L, Q, o, h, hL => by
  refine (Spn.fold L (h.join (hL t List.mem_cons_self)) fun t ht => hL t (List.mem_cons_of_mem _ ht)).imp fun x => ?_
  constructor
  ·rintro ((h | h) | ⟨u, hu, h⟩)
   ·exact .inl h
   ·exact .inr ⟨t, List.mem_cons_self, h⟩
   ·exact .inr ⟨u, List.mem_cons_of_mem _ hu, h⟩
  ·rintro (h | ⟨u, hu, h⟩)
   ·exact .inl (.inl h)
   ·rcases List.mem_cons.1 hu with rfl | hu
    ·exact .inl (.inr h)
    ·exact .inr ⟨u, hu, h⟩
theorem over_spn {P : Theft → (Nat → Int) → Prop} {g : (Nat → Int) → Int} {f : Theft → Span} {L : List Theft} (hne : 0 < L.length) (h : ∀ t ∈ L, Spn (P t) g (f t)) : Spn (fun x => ∃ t, t ∈ L ∧ P t x) g (overS L f) := by
 cases L with
 | nil => cases hne
 | cons t L =>
  refine (Spn.fold (t :: L) (h t List.mem_cons_self) h).imp fun x => ?_
  exact ⟨fun hx => hx.elim (fun hx => ⟨t, List.mem_cons_self, hx⟩) id, .inr⟩
theorem span_eq {l : LLine} (h : Lw l) {s : List Int} {W : Mat} (hW : explM l s = some W) {a b : Nat} (ha : a < l.gives.length + 2) (hb : b < l.gives.length + 2) : spanM W a b = ⟨-ent W b a, ent W a b⟩ := by
 have := expl_bd h hW hb ha
 unfold spanM
 rw [w64_eq (by omega), Int.zero_sub]
theorem flow_spn {l : LLine} (h : Lw l) {s : List Int} {W : Mat} (hW : explM l s = some W) {p : Nat} (hp : p ≤ l.gives.length) : Spn (Fl l s) (fun f => f p) (spanM W (l.gives.length + 1) p) := by
 rw [span_eq h hW (by omega) (by omega)]
 have h1 := expl_mx h hW (a := l.gives.length + 1) (b := p) (by omega) (by omega)
 have h2 := expl_mx h hW (a := p) (b := l.gives.length + 1) (by omega) (by omega)
 have e1 : ∀ f, ex l f p = f p := fun f => by unfold ex; rw [if_pos hp]
 have e2 : ∀ f, ex l f (l.gives.length + 1) = 0 := fun f => by unfold ex; rw [if_neg (by omega)]
 simp only [e1, e2] at h1 h2
 obtain ⟨f1, p1, q1⟩ := h1.2
 obtain ⟨f2, p2, q2⟩ := h2.2
 refine ⟨fun f hf => ?_, ⟨f2, p2, ?_⟩, ⟨f1, p1, ?_⟩⟩
 ·have := h1.1 f hf; have := h2.1 f hf
  simp only at *; omega
 ·simp only at *; omega
 ·simp only at *; omega
theorem lost_eq {l : LLine} (h : Lw l) {s : List Int} {W : Mat} (hW : explM l s = some W) {a b : Nat} (hab : a ≤ b) (hb : b ≤ l.gives.length) : lostS l W a b = ⟨-ent W a b - (gsum l b - gsum l a), ent W b a - (gsum l b - gsum l a)⟩ := by
 have hp := h.pts
 have h1 := expl_bd h hW (a := a) (b := b) (by omega) (by omega)
 have h2 := expl_bd h hW (a := b) (b := a) (by omega) (by omega)
 have h3 := gsum_bd h a
 have h4 := gsum_bd h b
 have e := sumW_eq h (a := a) (b - a) (by omega)
 rw [show a + (b - a) = b by omega] at e
 unfold lostS
 rw [span_eq h hW (by omega) (by omega), e]
 simp only
 rw [w64_eq (by omega), w64_eq (by omega)]
def lossF (l : LLine) (a b : Nat) (f : Nat → Int) : Int := f a - f b - (gsum l b - gsum l a)
theorem lost_spn {l : LLine} (h : Lw l) {s : List Int} {W : Mat} (hW : explM l s = some W) {a b : Nat} (hab : a ≤ b) (hb : b ≤ l.gives.length) : Spn (Fl l s) (lossF l a b) (lostS l W a b) := by
 rw [lost_eq h hW hab hb]
 have h1 := expl_mx h hW (a := a) (b := b) (by omega) (by omega)
 have h2 := expl_mx h hW (a := b) (b := a) (by omega) (by omega)
 have e1 : ∀ f, ex l f a = f a := fun f => by unfold ex; rw [if_pos (by omega)]
 have e2 : ∀ f, ex l f b = f b := fun f => by unfold ex; rw [if_pos (by omega)]
 simp only [e1, e2] at h1 h2
 obtain ⟨f1, p1, q1⟩ := h1.2
 obtain ⟨f2, p2, q2⟩ := h2.2
 unfold lossF
 refine ⟨fun f hf => ?_, ⟨f1, p1, ?_⟩, ⟨f2, p2, ?_⟩⟩
 ·have := h1.1 f hf; have := h2.1 f hf
  simp only at *; omega
 ·simp only at *; omega
 ·simp only at *; omega
def Fa (l : LLine) (f : Nat → Int) : Prop := ∃ s, s ∈ setsL l.gives.length ∧ (s.length : Int) ≤ l.taps ∧ Fl l s f
theorem fa_iff {l : LLine} (h : Lw l) (f : Nat → Int) : (∃ t, t ∈ theftsL l ∧ Fl l t.1 f) ↔ Fa l f := by
 constructor
 ·rintro ⟨t, ht, hf⟩
  obtain ⟨h1, h2⟩ := mem_thefts.1 ht
  exact ⟨t.1, h1, ((expl_iff h t.1).1 (by rw [h2]; rfl)).1, hf⟩
 ·rintro ⟨s, hs, ht, hf⟩
  have := (expl_iff h s).2 ⟨ht, f, hf⟩
  obtain ⟨W, hW⟩ := Option.isSome_iff_exists.1 this
  exact ⟨(s, W), mem_thefts.2 ⟨hs, hW⟩, hf⟩
theorem poss_fa {l : LLine} (h : Lw l) : possB l = true ↔ ∃ f, Fa l f := by
 rw [poss_iff h]
 exact ⟨fun ⟨s, h1, h2, f, h3⟩ => ⟨f, s, h1, h2, h3⟩, fun ⟨f, s, h1, h2, h3⟩ => ⟨s, h1, h2, f, h3⟩⟩
theorem poss_len {l : LLine} : possB l = true ↔ 0 < (theftsL l).length := by
 unfold possB; rw [decide_eq_true_iff]
theorem flows_spn {l : LLine} (h : Lw l) (hp : possB l = true) {p : Nat} (hpt : p ≤ l.gives.length) : Spn (Fa l) (fun f => f p) (flowsS l p) :=
 (over_spn (P := fun t => Fl l t.1) (poss_len.1 hp) fun t ht => flow_spn h (mem_thefts.1 ht).2 hpt).imp (fa_iff h)
theorem lostAll_spn {l : LLine} (h : Lw l) (hp : possB l = true) {a b : Nat} (hab : a ≤ b) (hb : b ≤ l.gives.length) : Spn (Fa l) (lossF l a b) (lostAll l a b) :=
 (over_spn (P := fun t => Fl l t.1) (poss_len.1 hp) fun t ht => lost_spn h (mem_thefts.1 ht).2 hab hb).imp (fa_iff h)
end Go.Av.Fx
end
section
namespace Go.Av.Fx
open Go Go.Av Go.Av.Tb Go.Proofs
end Go.Av.Fx
end
section
namespace Go.Av.Fx
open Go Go.Av Go.Proofs
open Go.Fw (Sq ent Bd Mat Tells Good)
theorem mem_setsL {m : Nat} {s : List Int} : s ∈ setsL m ↔ s = [] ∨ (∃ i : Nat, i < m ∧ s = [(i : Int)]) ∨ ∃ i k : Nat, i < k ∧ k < m ∧ s = [(i : Int), (k : Int)] := by
 unfold setsL ones twos twosAt
 simp only [List.mem_cons, List.mem_append, List.mem_map, List.mem_range, List.mem_flatMap]
 constructor
 ·rintro (h | ⟨i, hi, h⟩ | ⟨i, hi, j, hj, h⟩)
  ·exact .inl h
  ·exact .inr (.inl ⟨i, hi, h.symm⟩)
  ·exact .inr (.inr ⟨i, i + 1 + j, by omega, by omega, h.symm⟩)
 ·rintro (h | ⟨i, hi, h⟩ | ⟨i, k, hi, hk, h⟩)
  ·exact .inl h
  ·exact .inr (.inl ⟨i, hi, h.symm⟩)
  ·exact .inr (.inr ⟨i, by omega, k - (i + 1), by omega, by rw [h, show i + 1 + (k - (i + 1)) = k by omega]⟩)
theorem setsL_le2 {m : Nat} {s : List Int} (h : s ∈ setsL m) : s.length ≤ 2 := by
 rcases mem_setsL.1 h with rfl | ⟨i, _, rfl⟩ | ⟨i, k, _, _, rfl⟩ <;> simp
theorem setsL_in {m : Nat} {s : List Int} (h : s ∈ setsL m) : ∀ x ∈ s, 0 ≤ x ∧ x < m := by
 intro x hx
 rcases mem_setsL.1 h with rfl | ⟨i, hi, rfl⟩ | ⟨i, k, hi, hk, rfl⟩
 ·cases hx
 ·simp at hx; subst hx; omega
 ·simp at hx; rcases hx with rfl | rfl <;> omega
def upB (lo hi : Int) (s : List Int) : Bool := (List.range s.length).all fun i => inB (s.getD i 0) lo hi && (decide (i = 0) || decide (s.getD (i - 1) 0 < s.getD i 0))
theorem up_iff {lo hi : Int} {s : List Int} : upB lo hi s = true ↔ (∀ x ∈ s, lo ≤ x ∧ x ≤ hi) ∧ s.Pairwise (· < ·) := by
 unfold upB
 rw [List.all_eq_true]
 constructor
 ·intro h
  have h' : ∀ i (hi' : i < s.length), (lo ≤ s[i] ∧ s[i] ≤ hi) ∧ (i = 0 ∨ s.getD (i - 1) 0 < s[i]) := fun i hi' => by
   have := h i (List.mem_range.2 hi')
   rw [Bool.and_eq_true, inB_iff, Bool.or_eq_true, decide_eq_true_iff, decide_eq_true_iff, getD_at _ hi'] at this
   exact this
  refine ⟨fun x hx => ?_, ?_⟩
  ·obtain ⟨i, hi', rfl⟩ := List.mem_iff_getElem.1 hx
   exact (h' i hi').1
  ·rw [List.pairwise_iff_getElem]
   intro i j hi' hj hij
   induction j with
   | zero => omega
   | succ j ih =>
    have h1 := (h' (j + 1) hj).2
    have h2 : s.getD (j + 1 - 1) 0 = s[j]'(by omega) := by rw [Nat.add_sub_cancel]; exact getD_at _ (by omega)
    rw [h2] at h1
    by_cases e : i = j
    ·subst e; omega
    ·have := ih (by omega) (by omega); omega
 ·rintro ⟨h1, h2⟩ i hi'
  have hi' := List.mem_range.1 hi'
  rw [Bool.and_eq_true, inB_iff, Bool.or_eq_true, decide_eq_true_iff, decide_eq_true_iff, getD_at _ hi']
  refine ⟨h1 _ (List.getElem_mem hi'), ?_⟩
  by_cases e : i = 0
  ·exact .inl e
  ·refine .inr ?_
   rw [getD_at _ (by omega : i - 1 < s.length)]
   exact List.pairwise_iff_getElem.1 h2 (i - 1) i (by omega) hi' (by omega)
theorem isSet_up (l : LLine) (s : List Int) : isSetB l s = upB 0 (l.gives.length - 1) s := rfl
theorem set_mem {l : LLine} {s : List Int} (h1 : isSetB l s = true) (h2 : s.length ≤ 2) : s ∈ setsL l.gives.length := by
 rw [isSet_up, up_iff] at h1
 obtain ⟨h1, h3⟩ := h1
 rw [mem_setsL]
 match s, h2 with
 | [], _ => exact .inl rfl
 | [a], _ =>
  have := h1 a List.mem_cons_self
  exact .inr (.inl ⟨a.toNat, by omega, by rw [Int.toNat_of_nonneg this.1]⟩)
 | [a, b], _ =>
  have ha := h1 a List.mem_cons_self
  have hb := h1 b (List.mem_cons_of_mem _ List.mem_cons_self)
  have hab : a < b := by
   have := List.pairwise_cons.1 h3
   exact this.1 b List.mem_cons_self
  exact .inr (.inr ⟨a.toNat, b.toNat, by omega, by omega, by rw [Int.toNat_of_nonneg ha.1, Int.toNat_of_nonneg hb.1]⟩)
theorem mem_set {l : LLine} {s : List Int} (h : s ∈ setsL l.gives.length) : isSetB l s = true := by
 rw [isSet_up, up_iff]
 refine ⟨fun x hx => by have := setsL_in h x hx; omega, ?_⟩
 rcases mem_setsL.1 h with rfl | ⟨i, hi, rfl⟩ | ⟨i, k, hi, hk, rfl⟩
 ·exact List.Pairwise.nil
 ·simp
 ·simp; omega
def tapL (t : Truth) : List Int := ((List.range t.losses.length).filter fun i => decide (t.losses.getD i 0 > 0)).map fun (i : Nat) => (i : Int)
theorem mem_tapL {t : Truth} {i : Nat} : (i : Int) ∈ tapL t ↔ t.losses.getD i 0 > 0 := by
 unfold tapL
 simp only [List.mem_map, List.mem_filter, List.mem_range, decide_eq_true_iff]
 constructor
 ·rintro ⟨j, ⟨_, hj⟩, e⟩
  rw [show i = j by omega]; exact hj
 ·intro h
  refine ⟨i, ⟨?_, h⟩, rfl⟩
  rcases Nat.lt_or_ge i t.losses.length with h' | h'
  ·exact h'
  ·rw [List.getD_eq_getElem?_getD, List.getElem?_eq_none h'] at h
   simp at h
theorem tapL_has (t : Truth) (i : Nat) : (tapL t).contains (i : Int) = decide (t.losses.getD i 0 > 0) := by
 rw [Bool.eq_iff_iff, List.contains_iff_mem, mem_tapL, decide_eq_true_iff]
theorem tapL_up (t : Truth) : (tapL t).Pairwise (· < ·) := by
 unfold tapL
 rw [List.pairwise_map]
 exact ((List.pairwise_lt_range (n := t.losses.length)).filter _).imp fun h => by omega
theorem tapL_len (t : Truth) : (tapL t).length = tappedT t t.losses.length := by
 unfold tapL
 rw [List.length_map]
 induction t.losses.length with
 | zero => rfl
 | succ n ih =>
  rw [List.range_succ, List.filter_append, List.length_append, ih]
  show _ = (if t.losses.getD n 0 > 0 then tappedT t n + 1 else tappedT t n)
  rw [List.filter_cons, List.filter_nil]
  by_cases g : t.losses.getD n 0 > 0
  ·rw [if_pos g, decide_eq_true g, if_pos rfl]; rfl
  ·rw [if_neg g, decide_eq_false g, if_neg (by decide)]; rfl
theorem tapL_set {l : LLine} {t : Truth} (ht : truthB l t = true) : isSetB l (tapL t) = true := by
 unfold truthB at ht
 simp only [Bool.and_eq_true, decide_eq_true_iff] at ht
 rw [isSet_up, up_iff]
 refine ⟨fun x hx => ?_, tapL_up t⟩
 unfold tapL at hx
 simp only [List.mem_map, List.mem_filter, List.mem_range] at hx
 obtain ⟨i, ⟨hi, _⟩, rfl⟩ := hx
 omega
theorem truth_loss2 {l : LLine} {t : Truth} (ht : truthB l t = true) (i : Nat) : t.losses.getD i 0 = 0 ∨ (l.least ≤ t.losses.getD i 0 ∧ t.losses.getD i 0 ≤ l.most) := by
 unfold truthB at ht
 simp only [Bool.and_eq_true, Bool.not_eq_true', List.any_eq_false] at ht
 have h3 := ht.2.2
 rw [List.getD_eq_getElem?_getD]
 cases hx : t.losses[i]? with
 | none => exact .inl rfl
 | some g =>
  have := h3 g (List.mem_of_getElem? hx)
  simp only [Option.getD_some]
  by_cases hg : g = 0
  ·exact .inl hg
  ·right
   simp [lossBad, hg, inB] at this
   exact this
theorem fits_iff {l : LLine} (h : Lw l) {t : Truth} (ht : truthB l t = true) : fitsT l t = true ↔ ((tapL t).length : Int) ≤ l.taps ∧ Fl l (tapL t) (flowT l t) := by
 have htl := ht
 unfold truthB at htl
 simp only [Bool.and_eq_true, decide_eq_true_iff] at htl
 have hlen : t.losses.length = l.gives.length := by omega
 have hin := inB_iff.1 htl.1
 have hmono : ∀ {b a : Nat}, a ≤ b → tappedT t a ≤ tappedT t b := by
  intro b
  induction b with
  | zero => intro a hab; rw [show a = 0 by omega]; exact Nat.le_refl _
  | succ b ih =>
   intro a hab
   by_cases e : a = b + 1
   ·rw [e]; exact Nat.le_refl _
   ·refine Nat.le_trans (ih (a := a) (by omega)) ?_
    show _ ≤ (if t.losses.getD b 0 > 0 then tappedT t b + 1 else tappedT t b)
    split <;> omega
 unfold fitsT
 rw [List.all_eq_true, tapL_len, hlen]
 constructor
 ·intro hall
  have hp : ∀ p, p ≤ l.gives.length → 0 ≤ flowT l t p ∧ (tappedT t p : Int) ≤ l.taps ∧ wrongT l t p = false := fun p hp => by
   have := hall p (List.mem_range.2 (by omega))
   unfold badT at this
   simp only [Bool.not_eq_true', Bool.or_eq_false_iff, decide_eq_false_iff_not] at this
   exact ⟨by omega, by omega, this.2.2⟩
  refine ⟨(hp _ (Nat.le_refl _)).2.1, fun p hp' => (hp p hp').1, by show t.inflow ≤ 400; omega, fun i hi => ?_, fun c hc => ?_⟩
  ·have e : flowT l t i - flowT l t (i + 1) = l.gives.getD i 0 + t.losses.getD i 0 := by
    show flowT l t i - (flowT l t i - (l.gives.getD i 0 + t.losses.getD i 0)) = _; omega
   rw [e]
   have := truth_loss2 ht i
   have hle := h.least
   unfold lowL highL
   rw [tapL_has]
   by_cases g : t.losses.getD i 0 > 0
   ·rw [decide_eq_true g, if_pos rfl, if_pos rfl]; omega
   ·rw [decide_eq_false g, if_neg (by decide), if_neg (by decide)]; omega
  ·have hcc := h.counts c hc
   have hw := (hp c.point.toNat (by omega)).2.2
   unfold wrongT at hw
   rw [List.any_eq_false] at hw
   have := hw c hc
   rw [Bool.and_eq_true, decide_eq_true_iff, Bool.not_eq_true'] at this
   have h2 : inB (flowT l t c.point.toNat) c.low c.high = true := by
    cases hb : inB (flowT l t c.point.toNat) c.low c.high with
    | true => rfl
    | false => exact absurd ⟨by omega, hb⟩ this
   exact inB_iff.1 h2
 ·rintro ⟨h1, hf⟩ p hp
  have hp := List.mem_range.1 hp
  unfold badT
  simp only [Bool.not_eq_true', Bool.or_eq_false_iff, decide_eq_false_iff_not]
  have h2 := hf.pos p (by omega)
  have h3 := hmono (a := p) (b := l.gives.length) (by omega)
  refine ⟨by omega, by omega, ?_⟩
  unfold wrongT
  rw [List.any_eq_false]
  intro c hc
  rw [Bool.and_eq_true, decide_eq_true_iff, Bool.not_eq_true']
  rintro ⟨e, hb⟩
  have h4 := hf.cnt c hc
  rw [show c.point.toNat = p by omega] at h4
  rw [inB_iff.2 h4] at hb; cases hb
theorem fits_mem {l : LLine} (h : Lw l) {t : Truth} (ht : truthB l t = true) (hf : fitsT l t = true) : tapL t ∈ setsOut l ∧ Fa l (flowT l t) := by
 obtain ⟨h1, h2⟩ := (fits_iff h ht).1 hf
 have h3 := h.taps
 have hs := set_mem (tapL_set ht) (by omega)
 exact ⟨(mem_setsOut h).2 ⟨hs, h1, _, h2⟩, _, hs, h1, h2⟩
end Go.Av.Fx
end
section
namespace Go.Av.Fx
open Go Go.Av Go.Proofs
open Go.Fw (Sq ent Bd Mat Tells Good)
theorem sets_100 {l : LLine} (h : Lw l) : (setsOut l).length ≤ 100 := by
 rw [setsOut_eq]
 refine Nat.le_trans (List.length_filter_le _ _) ?_
 have := h.pts
 match hm : l.gives.length, this.2 with
 | 0, _ => decide
 | 1, _ => decide
 | 2, _ => decide
 | 3, _ => decide
 | 4, _ => decide
 | 5, _ => decide
end Go.Av.Fx
end
section
namespace Go.Av.Fx
open Go Go.Av Go.Av.Tb Go.Proofs
end Go.Av.Fx
end
section
namespace Go.Av.Fx
open Go Go.Av Go.Av.Tb Go.Proofs
theorem Tapped_pc (t : Truth) (hl : t.losses.length ≤ 1000) : PC Tryz.prog 67 [.agg (trC t)] (.pure (sl (tapL t))) := by
 refine PC.of_frz (AC.run (E_ok _) mix Tryz.func67 m67 rfl rfl rfl (Nat.le_of_ble_eq_true rfl) ?_) (by simp [bndL, AV.bnd]) (by simp [AV.bnd])
 simp only [go_sem, boxA, reduceEqDiff, Nat.reduceBEq, reduceAdd, reduceIte, reduceCtorEq, reduceLeDiff]
 obtain ⟨g, hg⟩ : ∃ g : Nat → List Int, ∀ k, g k = ((List.range k).filter fun i => decide (t.losses.getD i 0 > 0)).map fun (i : Nat) => (i : Int) := ⟨_, fun _ => rfl⟩
 have hgl : ∀ k, (g k).length ≤ k := fun k => by
  rw [hg, List.length_map]
  exact Nat.le_trans (List.length_filter_le _ _) (by simp)
 have hgs : ∀ k, g (k + 1) = g k ++ (if t.losses.getD k 0 > 0 then [(k : Int)] else []) := fun k => by
  rw [hg, hg, List.range_succ, List.filter_append, List.map_append, List.filter_cons, List.filter_nil]
  by_cases h : t.losses.getD k 0 > 0
  ·rw [decide_eq_true h, if_pos rfl, if_pos h]; rfl
  ·rw [decide_eq_false h, if_neg (by decide), if_neg h]; rfl
 have ht : tapL t = g t.losses.length := (hg _).symm
 have h0 : g 0 = [] := by rw [hg]; rfl
 refine wc_for t.losses.length (fun k => [(1, .ref 0 0), (3, gro (ints (g k))), (4, .int .i64 k)]) (fun k => ⟨[some (.cells (trC t))], (g k).length, toksN (g k).length⟩) (by rw [h0]; rfl) (by rw [h0]; rfl) ?_
 intro k hk I hI
 by_cases h : k < t.losses.length
 ·have h' : (k : Int) < t.losses.length := by omega
  have h2 : 0 ≤ (k : Int) ∧ (k : Int) < t.losses.length := by omega
  have h3 : t.losses[k]? = some (t.losses.getD k 0) := by rw [List.getD_eq_getElem?_getD, List.getElem?_eq_getElem h]; rfl
  have h4 : IntKind.i64.wrap ((k : Int) + 1) = (k + 1 : Nat) := wrap64 (by omega)
  have hI := hI h
  rw [hgs] at hI
  have hle := hgl k
  by_cases hp : t.losses.getD k 0 > 0
  ·rw [if_pos hp] at hI
   simp only [go_sem, l67_0, builtinA, h', decide_true, h2, ints_get, h3, Option.map_some, hp, reduceEqDiff, Nat.reduceBEq, reduceAdd, reduceIte, reduceCtorEq, reduceLeDiff]
   refine sr_gro22 _ _ _ (by simp) (by omega) ?_
   simp only [go_sem, h4, reduceEqDiff, Nat.reduceBEq, reduceAdd, reduceIte, reduceCtorEq, reduceLeDiff]
   have e : ints (g k ++ [(k : Int)]) = ints (g k) ++ [.int .i64 k] := by simp [ints]
   rw [e, List.length_append] at hI
   exact hI
  ·rw [if_neg hp, List.append_nil] at hI
   simp only [go_sem, l67_0, builtinA, h', decide_true, h2, ints_get, h3, Option.map_some, hp, decide_false, h4, reduceEqDiff, Nat.reduceBEq, reduceAdd, reduceIte, reduceCtorEq, reduceLeDiff]
   exact hI
 ·have h' : ¬ (k : Int) < t.losses.length := by omega
  have ek : k = t.losses.length := by omega
  subst ek
  simp only [go_sem, l67_0, builtinA, h', decide_false, Tryz.f67, reduceEqDiff, Nat.reduceBEq, reduceAdd, reduceIte, reduceCtorEq, reduceLeDiff]
  rw [ht]
  refine ⟨_, rfl, ?_⟩
  have := gro_frz_same [some (Blk.cells (trC t))] (ints (g t.losses.length))
  rw [ints_len] at this
  exact this
theorem truthB_len {l : LLine} {t : Truth} (ht : truthB l t = true) : t.losses.length = l.gives.length := by
 unfold truthB at ht
 simp only [Bool.and_eq_true, decide_eq_true_iff] at ht
 omega
theorem Flow_pc (l : LLine) (h : Ln l) (t : Truth) (ht : truthB l t = true) (p : Nat) (hp : p ≤ l.gives.length) : PC Tryz.prog 68 [lineA l, .agg (trC t), .int .i64 p] (.pure (.int .i64 (flowT l t p))) := by
 have hlen := truthB_len ht
 have hpts := h.pts
 refine PC.of_empty (AC.run (E_ok _) mix Tryz.func68 m68 rfl rfl rfl (Nat.le_of_ble_eq_true rfl) ?_) (by simp [bndL, AV.bnd]) rfl
 simp only [go_sem, boxA, reduceEqDiff, Nat.reduceBEq, reduceAdd, reduceIte, reduceCtorEq, reduceLeDiff]
 refine wc_for p (fun k => [(2, .int .i64 p), (3, .ref 0 0), (4, .ref 1 0), (7, .int .i64 (flowT l t k)), (8, .int .i64 k)]) (fun _ => ⟨[some (.cells (lineC l)), some (.cells (trC t))], 0, []⟩) rfl rfl ?_
 intro k hk I hI
 by_cases h1 : k < p
 ·have h' : (k : Int) < p := by omega
  have h2 : 0 ≤ (k : Int) ∧ (k : Int) < l.gives.length := by omega
  have h2' : 0 ≤ (k : Int) ∧ (k : Int) < t.losses.length := by omega
  have h3 : l.gives[k]? = some (l.gives.getD k 0) := by rw [List.getD_eq_getElem?_getD, List.getElem?_eq_getElem (by omega)]; rfl
  have h3' : t.losses[k]? = some (t.losses.getD k 0) := by rw [List.getD_eq_getElem?_getD, List.getElem?_eq_getElem (by omega)]; rfl
  have h4 : IntKind.i64.wrap ((k : Int) + 1) = (k + 1 : Nat) := wrap64 (by omega)
  have b1 := flowT_bnd h ht k (by omega)
  have b2 := truth_loss h ht k
  have b3 := h.give k
  have w1 : IntKind.i64.wrap (flowT l t k - l.gives.getD k 0) = flowT l t k - l.gives.getD k 0 := wrap64 (by omega)
  have w2 : IntKind.i64.wrap (flowT l t k - l.gives.getD k 0 - t.losses.getD k 0) = flowT l t (k + 1) := by
   rw [wrap64 (by omega)]
   show _ = flowT l t k - (l.gives.getD k 0 + t.losses.getD k 0); omega
  simp only [go_sem, l68_0, h', decide_true, h2, h2', ints_get, h3, h3', Option.map_some, w1, w2, h4, reduceEqDiff, Nat.reduceBEq, reduceAdd, reduceIte, reduceCtorEq, reduceLeDiff]
  exact hI h1
 ·have h' : ¬ (k : Int) < p := by omega
  have ek : k = p := by omega
  subst ek
  simp only [go_sem, l68_0, h', decide_false, Tryz.f68, reduceEqDiff, Nat.reduceBEq, reduceAdd, reduceIte, reduceCtorEq, reduceLeDiff]
theorem rTruth_pc (l : LLine) (t : Truth) (hl : okL t.losses.length) : PC Tryz.prog 65 [lineA l, .agg (trC t)] (.pure (.bool (truthB l t))) := by
 refine PC.of_empty (AC.run (E_ok _) mix Tryz.func65 m65 rfl rfl rfl (Nat.le_of_ble_eq_true rfl) ?_) (by simp [bndL, AV.bnd]) rfl
 unfold okL at hl
 simp only [go_sem, boxA, reduceEqDiff, Nat.reduceBEq, reduceAdd, reduceIte, reduceCtorEq, reduceLeDiff]
 refine wc_forP t.losses.length (fun k => ∀ i (h1 : i < k) (h2 : i < t.losses.length), lossBad l t.losses[i] = false) (fun k => [(2, .ref 0 0), (3, .ref 1 0), (5, .int .i64 k)]) (fun _ => ⟨[some (.cells (lineC l)), some (.cells (trC t))], 0, []⟩) (fun i hi => absurd hi (Nat.not_lt_zero _)) rfl rfl ?_
 intro k hk hP I hI
 by_cases h : k < t.losses.length
 ·have h' : (k : Int) < t.losses.length := by omega
  have h2 : 0 ≤ (k : Int) ∧ (k : Int) < t.losses.length := by omega
  have h3 : t.losses[k]? = some t.losses[k] := List.getElem?_eq_getElem h
  have h4 : IntKind.i64.wrap ((k : Int) + 1) = (k + 1 : Nat) := wrap64 (by omega)
  have good : lossBad l t.losses[k] = false → ∀ i (h1 : i < k + 1) (h2 : i < t.losses.length), lossBad l t.losses[i] = false := fun hb i hi hi2 => by
   by_cases e : i = k
   ·subst e; exact hb
   ·exact hP i (by omega) hi2
  by_cases hz : t.losses[k] ≠ 0
  ·have hd := decide_eq_true hz
   simp only [go_sem, l65_0, builtinA, h', decide_true, h2, ints_get, h3, Option.map_some, hd, reduceEqDiff, Nat.reduceBEq, reduceAdd, reduceIte, reduceCtorEq, reduceLeDiff]
   refine cp n80 (rin_pc _ _ _) (SubL.refl _) ?_
   cases hb : inB t.losses[k] l.least l.most
   ·simp only [go_sem, un_not, Bool.not_false, Tryz.f65, reduceEqDiff, Nat.reduceBEq, reduceAdd, reduceIte, reduceCtorEq, reduceLeDiff]
    have : t.losses.any (lossBad l) = true := by
     rw [List.any_eq_true]; exact ⟨_, List.getElem_mem h, by unfold lossBad; rw [hb, decide_eq_true hz]; rfl⟩
    unfold truthB; rw [this]; simp
   ·simp only [go_sem, un_not, Bool.not_true, h4, reduceEqDiff, Nat.reduceBEq, reduceAdd, reduceIte, reduceCtorEq, reduceLeDiff]
    exact hI h (good (by unfold lossBad; rw [hb]; simp))
  ·simp only [go_sem, l65_0, builtinA, h', decide_true, h2, ints_get, h3, Option.map_some, hz, decide_false, h4, reduceEqDiff, Nat.reduceBEq, reduceAdd, reduceIte, reduceCtorEq, reduceLeDiff]
   exact hI h (good (by unfold lossBad; rw [decide_eq_false hz]; rfl))
 ·have h' : ¬ (k : Int) < t.losses.length := by omega
  have ek : k = t.losses.length := by omega
  subst ek
  have : t.losses.any (lossBad l) = false := by
   rw [List.any_eq_false]
   intro x hx
   obtain ⟨i, hi, rfl⟩ := List.getElem_of_mem hx
   rw [hP i hi hi]; decide
  simp only [go_sem, l65_0, builtinA, h', decide_false, reduceEqDiff, Nat.reduceBEq, reduceAdd, reduceIte, reduceCtorEq, reduceLeDiff]
  refine cp n80 (rin_pc _ _ _) (SubL.refl _) ?_
  unfold truthB
  rw [this]
  cases hb : inB t.inflow 0 400
  ·simp only [go_sem, Tryz.f65, reduceEqDiff, Nat.reduceBEq, reduceAdd, reduceIte, reduceCtorEq, reduceLeDiff]
   rfl
  ·simp only [go_sem, builtinA, Tryz.f65, reduceEqDiff, Nat.reduceBEq, reduceAdd, reduceIte, reduceCtorEq, reduceLeDiff]
   simp
end Go.Av.Fx
end
section
namespace Go.Av.Fx
open Go Go.Av Go.Av.Tb Go.Proofs
end Go.Av.Fx
end
section
namespace Go.Av.Fx
open Go Go.Av Go.Av.Tb Go.Proofs
def lsum (t : Truth) : Nat → Int
 | 0 => 0
 | k + 1 => lsum t k + t.losses.getD k 0
def partS (t : Truth) (a b k : Nat) : Int := lsum t (min (max k a) b) - lsum t a
theorem lsum_flow (l : LLine) (t : Truth) : ∀ p, flowT l t p = t.inflow - gsum l p - lsum t p
 | 0 => by simp [flowT, gsum, lsum]
 | p + 1 => by
  have := lsum_flow l t p
  show flowT l t p - (l.gives.getD p 0 + t.losses.getD p 0) = t.inflow - (gsum l p + l.gives.getD p 0) - (lsum t p + t.losses.getD p 0)
  omega
theorem lsum_loss (l : LLine) (t : Truth) (a b : Nat) : lossF l a b (flowT l t) = lsum t b - lsum t a := by
 unfold lossF
 rw [lsum_flow, lsum_flow]; omega
theorem lsum_bd {l : LLine} (h : Ln l) {t : Truth} (ht : truthB l t = true) : ∀ k, 0 ≤ lsum t k ∧ lsum t k ≤ 60 * k
 | 0 => by simp [lsum]
 | k + 1 => by
  have := lsum_bd h ht k
  have := truth_loss h ht k
  show 0 ≤ lsum t k + t.losses.getD k 0 ∧ lsum t k + t.losses.getD k 0 ≤ _
  omega
theorem lsum_mono {l : LLine} (h : Ln l) {t : Truth} (ht : truthB l t = true) {a b : Nat} (hab : a ≤ b) : lsum t a ≤ lsum t b := by
 induction b with
 | zero => rw [show a = 0 by omega]; exact Int.le_refl _
 | succ b ih =>
  by_cases e : a = b + 1
  ·rw [e]; exact Int.le_refl _
  ·have := ih (by omega)
   have := truth_loss h ht b
   show lsum t a ≤ lsum t b + t.losses.getD b 0
   omega
theorem part_in {t : Truth} {a b k : Nat} (h1 : a ≤ k) (h2 : k < b) : partS t a b (k + 1) = partS t a b k + t.losses.getD k 0 := by
 unfold partS
 rw [show min (max (k + 1) a) b = k + 1 by omega, show min (max k a) b = k by omega]
 show lsum t k + t.losses.getD k 0 - lsum t a = _
 omega
theorem part_out {t : Truth} {a b k : Nat} (hab : a ≤ b) (h : ¬ (a ≤ k ∧ k < b)) : partS t a b (k + 1) = partS t a b k := by
 unfold partS
 rw [show min (max (k + 1) a) b = min (max k a) b by omega]
theorem part_bd {l : LLine} (h : Ln l) {t : Truth} (ht : truthB l t = true) {a b : Nat} (hab : a ≤ b) (hb : b ≤ l.gives.length) (k : Nat) : 0 ≤ partS t a b k ∧ partS t a b k ≤ 300 := by
 unfold partS
 have h1 := lsum_mono h ht (a := a) (b := min (max k a) b) (by omega)
 have h2 := lsum_bd h ht (min (max k a) b)
 have h3 := lsum_bd h ht a
 have h4 := h.pts
 omega
theorem word_true {l : LLine} (hw : Lw l) {t : Truth} (hm : tapL t ∈ setsOut l) (i : Nat) : (t.losses.getD i 0 > 0 → rWord (setsOut l) i ≠ 1) ∧ (t.losses.getD i 0 = 0 → rWord (setsOut l) i ≠ 3) := by
 unfold rWord
 constructor
 ·intro hp
  have : 0 < ((setsOut l).filter fun s => s.contains (i : Int)).length := List.length_pos_of_mem (List.mem_filter.2 ⟨hm, by rw [tapL_has, decide_eq_true hp]⟩)
  split
  ·decide
  ·rw [if_neg (by omega)]; decide
 ·intro hz
  have : ((setsOut l).filter fun s => s.contains (i : Int)).length < (setsOut l).length := by
   refine List.length_filter_lt_length_iff_exists.2 ⟨_, hm, ?_⟩
   rw [tapL_has, decide_eq_false (by omega)]; decide
  rw [if_neg (by omega)]
  split <;> decide
set_option maxHeartbeats 2000000 in
theorem true_loop (l : LLine) (h : Ln l) (t : Truth) (ht : truthB l t = true) (hm : tapL t ∈ setsOut l) (a b : Nat) (hab : a ≤ b) (hb : b ≤ l.gives.length) (Q : AQ) (B1 B2 B3 : Option Blk) (v1 v2 v3 : AV)
  (hQ : Q .normal [(2, .int .i64 a), (3, .int .i64 b), (4, .ref 0 0), (5, .ref 1 0), (13, sl (rKnown l)), (17, v1), (19, v2), (21, v3), (23, .int .i64 (lsum t b - lsum t a)), (24, .int .i64 (lsum t l.gives.length)), (25, .int .i64 l.gives.length), (164, .bool false)] ⟨[some (.cells (lineC l)), some (.cells (trC t)), B1, B2, B3], 0, []⟩) :
  WC (E 258) (.loop l16_0) (blockQ 0 Q) [(2, .int .i64 a), (3, .int .i64 b), (4, .ref 0 0), (5, .ref 1 0), (13, sl (rKnown l)), (17, v1), (19, v2), (21, v3), (23, .int .i64 0), (24, .int .i64 0), (25, .int .i64 0)] ⟨[some (.cells (lineC l)), some (.cells (trC t)), B1, B2, B3], 0, []⟩ := by
 have hlen := truthB_len ht
 have hpts := h.pts
 have hkl : (rKnown l).length = l.gives.length := by simp [rKnown]
 have p0 : partS t a b 0 = 0 := by unfold partS; rw [show min (max 0 a) b = a by omega]; omega
 refine wc_for l.gives.length (fun k => [(2, .int .i64 a), (3, .int .i64 b), (4, .ref 0 0), (5, .ref 1 0), (13, sl (rKnown l)), (17, v1), (19, v2), (21, v3), (23, .int .i64 (partS t a b k)), (24, .int .i64 (lsum t k)), (25, .int .i64 k)]) (fun _ => ⟨[some (.cells (lineC l)), some (.cells (trC t)), B1, B2, B3], 0, []⟩) (by rw [p0]; rfl) rfl ?_
 intro k hk I hI
 obtain ⟨C, hB⟩ : ∃ C, l16_0 = .seq (.seq (.region [2, 3, 4, 5, 13, 17, 19, 21, 23, 24, 25, 164] r16_18) (.cond (.tmp 164) .skip (.exit 0))) C := ⟨_, rfl⟩
 have hB2 := hB
 rw [hB]
 by_cases h1 : k < l.gives.length
 ·have h' : (k : Int) < t.losses.length := by omega
  have h2 : 0 ≤ (k : Int) ∧ (k : Int) < t.losses.length := by omega
  have h2' : 0 ≤ (k : Int) ∧ (k : Int) < (rKnown l).length := by omega
  have h3 : t.losses[k]? = some (t.losses.getD k 0) := by rw [List.getD_eq_getElem?_getD, List.getElem?_eq_getElem (by omega)]; rfl
  have h3' : (rKnown l)[k]? = some (rWord (setsOut l) k) := by
   unfold rKnown; rw [List.getElem?_map, List.getElem?_range h1, rSets_eq h.lw]; rfl
  have h4 : IntKind.i64.wrap ((k : Int) + 1) = (k + 1 : Nat) := wrap64 (by omega)
  obtain ⟨m1, m2⟩ := word_true h.lw hm k
  have b1 := lsum_bd h ht k
  have b2 := truth_loss h ht k
  have b3 := part_bd h ht hab hb k
  have w1 : IntKind.i64.wrap (lsum t k + t.losses.getD k 0) = lsum t (k + 1) := wrap64 (by omega)
  have w2 : IntKind.i64.wrap (partS t a b k + t.losses.getD k 0) = partS t a b k + t.losses.getD k 0 := wrap64 (by omega)
  have hI := hI h1
  simp only [go_sem, builtinA, h', decide_true, reduceEqDiff, Nat.reduceBEq, reduceAdd, reduceIte, reduceCtorEq, reduceLeDiff]
  unfold l16_0 at hB2
  injection hB2 with _ hB2
  subst hB2
  generalize rWord (setsOut l) k = r at h3' m1 m2
  generalize hx : t.losses.getD k 0 = x at *
  by_cases g1 : x > 0
  ·have g2 : ¬ (r = 1) := m1 g1
   have g3 : ¬ (x = 0) := by omega
   by_cases c1 : (k : Int) ≥ a
   ·by_cases c2 : (k : Int) < b
    ·rw [part_in (by omega) (by omega), hx] at hI
     simp only [go_sem, builtinA, decide_true, decide_false, h2, h2', ints_get, h3, h3', Option.map_some, g1, g2, g3, w1, w2, c1, c2, h4, reduceEqDiff, Nat.reduceBEq, reduceAdd, reduceIte, reduceCtorEq, reduceLeDiff]
     exact hI
    ·rw [part_out hab (by omega)] at hI
     simp only [go_sem, builtinA, decide_true, decide_false, h2, h2', ints_get, h3, h3', Option.map_some, g1, g2, g3, w1, w2, c1, c2, h4, reduceEqDiff, Nat.reduceBEq, reduceAdd, reduceIte, reduceCtorEq, reduceLeDiff]
     exact hI
   ·rw [part_out hab (by omega)] at hI
    simp only [go_sem, builtinA, decide_true, decide_false, h2, h2', ints_get, h3, h3', Option.map_some, g1, g2, g3, w1, w2, c1, h4, reduceEqDiff, Nat.reduceBEq, reduceAdd, reduceIte, reduceCtorEq, reduceLeDiff]
    exact hI
  ·have g2 : x = 0 := by omega
   have g3 : ¬ (r = 3) := m2 g2
   subst g2
   rw [Int.add_zero] at w1 w2
   have z0 : decide ((0 : Int) > 0) = false := rfl
   have z1 : decide ((0 : Int) = 0) = true := rfl
   by_cases c1 : (k : Int) ≥ a
   ·by_cases c2 : (k : Int) < b
    ·rw [part_in (by omega) (by omega), hx, Int.add_zero] at hI
     simp only [go_sem, builtinA, decide_true, decide_false, h2, h2', ints_get, h3, h3', Option.map_some, z0, z1, g3, w1, w2, c1, c2, h4, reduceEqDiff, Nat.reduceBEq, reduceAdd, reduceIte, reduceCtorEq, reduceLeDiff]
     exact hI
    ·rw [part_out hab (by omega)] at hI
     simp only [go_sem, builtinA, decide_true, decide_false, h2, h2', ints_get, h3, h3', Option.map_some, z0, z1, g3, w1, w2, c1, c2, h4, reduceEqDiff, Nat.reduceBEq, reduceAdd, reduceIte, reduceCtorEq, reduceLeDiff]
     exact hI
   ·rw [part_out hab (by omega)] at hI
    simp only [go_sem, builtinA, decide_true, decide_false, h2, h2', ints_get, h3, h3', Option.map_some, z0, z1, g3, w1, w2, c1, h4, reduceEqDiff, Nat.reduceBEq, reduceAdd, reduceIte, reduceCtorEq, reduceLeDiff]
    exact hI
 ·have h' : ¬ (k : Int) < t.losses.length := by omega
  have ek : k = l.gives.length := by omega
  subst ek
  have pe : partS t a b l.gives.length = lsum t b - lsum t a := by unfold partS; rw [show min (max l.gives.length a) b = b by omega]
  rw [pe]
  simp only [go_sem, builtinA, h', decide_false, reduceEqDiff, Nat.reduceBEq, reduceAdd, reduceIte, reduceCtorEq, reduceLeDiff]
  exact hQ
theorem words_len (l : LLine) : (rKnown l).length = l.gives.length := by simp [rKnown]
theorem known_ok {l : LLine} (ok : okLine l) (h : isLineB l = true) (hp : possB l = true) : PC Tryz.prog 21 [lineA l] (.pure (.tuple [sl (rKnown l), .int .i64 0])) := by
 have hk := Known_pc l ok
 have he : askE l true = 0 := by simp [askE, h, hp]
 unfold knownA at hk
 rw [if_pos he] at hk
 have hwl : (wordsT (theftsL l) l.gives.length).length = l.gives.length := by simp [wordsT]
 have hkk : AV.slice (ints (wordsT (theftsL l) l.gives.length)) l.gives.length .unk = sl (wordsT (theftsL l) l.gives.length) := by
  show _ = AV.slice _ (wordsT (theftsL l) l.gives.length).length _
  rw [hwl]
 rw [hkk, ← rKnown_eq (isLine_iff.1 h).lw hp] at hk
 exact hk
theorem sets_ok {l : LLine} (ok : okLine l) (h : isLineB l = true) (hp : possB l = true) : PC Tryz.prog 22 [lineA l] (.pure (.tuple [sll (setsOut l), .int .i64 0])) := by
 have hk := Sets_pc l ok
 have he : askE l true = 0 := by simp [askE, h, hp]
 unfold setsA at hk
 rw [if_pos he] at hk
 exact hk
theorem flows_ok {l : LLine} (ok : okLine l) (h : isLineB l = true) (hp : possB l = true) {p : Nat} (hpt : p ≤ l.gives.length) : PC Tryz.prog 34 [lineA l, .int .i64 p] (.pure (.tuple [spA (flowsS l p), .int .i64 0])) := by
 have hk := Flows_pc l ok p
 have hin : inB p 0 l.gives.length = true := inB_iff.2 (by omega)
 have he : askE l (inB p 0 l.gives.length) = 0 := by simp [askE, h, hp, hin]
 unfold flowsA at hk
 rw [if_pos he] at hk
 exact hk
theorem lost_ok {l : LLine} (ok : okLine l) (h : isLineB l = true) (hp : possB l = true) {a b : Nat} (hab : a ≤ b) (hb : b ≤ l.gives.length) : PC Tryz.prog 35 [lineA l, .int .i64 a, .int .i64 b] (.pure (.tuple [spA (lostAll l a b), .int .i64 0])) := by
 have hk := Lost_pc l ok a b
 have hf : fineLost l a b = true := by
  unfold fineLost
  rw [inB_iff.2 (by omega), inB_iff.2 (by omega), decide_eq_true (by omega)]; rfl
 have he : askE l (fineLost l a b) = 0 := by simp [askE, h, hp, hf]
 unfold lostA at hk
 rw [if_pos he] at hk
 exact hk
theorem expl_ok {l : LLine} (ok : okLine l) (h : isLineB l = true) {s : List Int} (hs : s ∈ setsOut l) : ∃ W, explM l s = some W ∧ PC Tryz.prog 30 [lineA l, sl s] (.pure (.tuple [spA (lostS l W 0 l.gives.length), .int .i64 0])) := by
 have hw := (isLine_iff.1 h).lw
 have hm := (mem_setsOut hw).1 hs
 have h2 := setsL_le2 hm.1
 have hk := Explains_pc l ok s (by show _ < _; omega)
 obtain ⟨W, hW⟩ := Option.isSome_iff_exists.1 ((expl_iff hw s).2 hm.2)
 refine ⟨W, hW, ?_⟩
 unfold explA at hk
 rw [if_pos ⟨h, h2⟩, if_pos (mem_set hm.1), hW] at hk
 exact hk
set_option maxHeartbeats 4000000 in
theorem LeakTrue_pc (l : LLine) (ok : okLine l) (t : Truth) (hl : okL t.losses.length) (a b : Int) : PC Tryz.prog 16 [lineA l, .agg (trC t), .int .i64 a, .int .i64 b] (.pure (.bool true)) := by
 refine PC.of_empty (AC.run (E_ok _) mix Tryz.func16 m16 rfl rfl rfl (Nat.le_of_ble_eq_true rfl) ?_) (by simp [bndL, AV.bnd]) rfl
 simp only [go_sem, boxA, reduceEqDiff, Nat.reduceBEq, reduceAdd, reduceIte, reduceCtorEq, reduceLeDiff]
 refine cp n19 (short_pc l) (SubL.refl _) ?_
 cases hsh : (decide ((l.gives.length : Int) ≤ 7) && decide ((l.counts.length : Int) ≤ 10))
 ·simp only [go_sem, un_not, Bool.not_false, reduceEqDiff, Nat.reduceBEq, reduceAdd, reduceIte, reduceCtorEq, reduceLeDiff]
  refine cp n20 known_pc (SubL.refl _) ?_
  simp only [go_sem, Tryz.f16, reduceEqDiff, Nat.reduceBEq, reduceAdd, reduceIte, reduceCtorEq, reduceLeDiff]
 simp only [go_sem, un_not, Bool.not_true, reduceEqDiff, Nat.reduceBEq, reduceAdd, reduceIte, reduceCtorEq, reduceLeDiff]
 refine cp n28 (rLine_pc l ok) (SubL.refl _) ?_
 cases h : isLineB l
 ·simp only [go_sem, un_not, Bool.not_false, reduceEqDiff, Nat.reduceBEq, reduceAdd, reduceIte, reduceCtorEq, reduceLeDiff]
  refine cp n20 known_pc (SubL.refl _) ?_
  simp only [go_sem, Tryz.f16, reduceEqDiff, Nat.reduceBEq, reduceAdd, reduceIte, reduceCtorEq, reduceLeDiff]
 by_cases h8 : (t.losses.length : Int) > 8
 ·simp only [go_sem, un_not, Bool.not_true, builtinA, h8, decide_true, reduceEqDiff, Nat.reduceBEq, reduceAdd, reduceIte, reduceCtorEq, reduceLeDiff]
  refine cp n20 known_pc (SubL.refl _) ?_
  simp only [go_sem, Tryz.f16, reduceEqDiff, Nat.reduceBEq, reduceAdd, reduceIte, reduceCtorEq, reduceLeDiff]
 simp only [go_sem, un_not, Bool.not_true, builtinA, h8, decide_false, reduceEqDiff, Nat.reduceBEq, reduceAdd, reduceIte, reduceCtorEq, reduceLeDiff]
 refine cp n65 (rTruth_pc l t hl) (SubL.refl _) ?_
 cases ht : truthB l t
 ·simp only [go_sem, un_not, Bool.not_false, reduceEqDiff, Nat.reduceBEq, reduceAdd, reduceIte, reduceCtorEq, reduceLeDiff]
  refine cp n20 known_pc (SubL.refl _) ?_
  simp only [go_sem, Tryz.f16, reduceEqDiff, Nat.reduceBEq, reduceAdd, reduceIte, reduceCtorEq, reduceLeDiff]
 simp only [go_sem, un_not, Bool.not_true, reduceEqDiff, Nat.reduceBEq, reduceAdd, reduceIte, reduceCtorEq, reduceLeDiff]
 refine cp n37 (rPoint_pc l a) (SubL.refl _) ?_
 cases ha : inB a 0 l.gives.length
 ·simp only [go_sem, un_not, Bool.not_false, reduceEqDiff, Nat.reduceBEq, reduceAdd, reduceIte, reduceCtorEq, reduceLeDiff]
  refine cp n20 known_pc (SubL.refl _) ?_
  simp only [go_sem, Tryz.f16, reduceEqDiff, Nat.reduceBEq, reduceAdd, reduceIte, reduceCtorEq, reduceLeDiff]
 simp only [go_sem, un_not, Bool.not_true, reduceEqDiff, Nat.reduceBEq, reduceAdd, reduceIte, reduceCtorEq, reduceLeDiff]
 refine cp n37 (rPoint_pc l b) (SubL.refl _) ?_
 cases hb : inB b 0 l.gives.length
 ·simp only [go_sem, un_not, Bool.not_false, reduceEqDiff, Nat.reduceBEq, reduceAdd, reduceIte, reduceCtorEq, reduceLeDiff]
  refine cp n20 known_pc (SubL.refl _) ?_
  simp only [go_sem, Tryz.f16, reduceEqDiff, Nat.reduceBEq, reduceAdd, reduceIte, reduceCtorEq, reduceLeDiff]
 by_cases hab : a > b
 ·simp only [go_sem, un_not, Bool.not_true, hab, decide_true, reduceEqDiff, Nat.reduceBEq, reduceAdd, reduceIte, reduceCtorEq, reduceLeDiff]
  refine cp n20 known_pc (SubL.refl _) ?_
  simp only [go_sem, Tryz.f16, reduceEqDiff, Nat.reduceBEq, reduceAdd, reduceIte, reduceCtorEq, reduceLeDiff]
 simp only [go_sem, un_not, Bool.not_true, hab, decide_false, reduceEqDiff, Nat.reduceBEq, reduceAdd, reduceIte, reduceCtorEq, reduceLeDiff]
 have hln := isLine_iff.1 h
 have hw := hln.lw
 have hpts := hln.pts
 have hpa := inB_iff.1 ha
 have hpb := inB_iff.1 hb
 obtain ⟨x, rfl⟩ : ∃ x : Nat, a = x := ⟨a.toNat, by omega⟩
 obtain ⟨y, rfl⟩ : ∃ y : Nat, b = y := ⟨b.toNat, by omega⟩
 have hF := Fits_pc l ok t hl
 unfold fitsA at hF
 rw [if_pos h, if_pos ht] at hF
 have hP := Possible_pc l ok
 rw [h, Bool.true_and, if_pos rfl] at hP
 have y0 : ¬ ((0 : Int) ≠ 0) := by decide
 refine cp n66 hF (SubL.refl _) ?_
 simp only [go_sem, extractA, reduceEqDiff, Nat.reduceBEq, reduceAdd, reduceIte, reduceCtorEq, reduceLeDiff]
 refine cp n41 hP (SubL.refl _) ?_
 cases hf : fitsT l t
 ·simp only [go_sem, extractA, y0, decide_false, un_not, Bool.not_false, reduceEqDiff, Nat.reduceBEq, reduceAdd, reduceIte, reduceCtorEq, reduceLeDiff]
  refine cp n20 known_pc (SubL.refl _) ?_
  simp only [go_sem, Tryz.f16, reduceEqDiff, Nat.reduceBEq, reduceAdd, reduceIte, reduceCtorEq, reduceLeDiff]
 obtain ⟨hm, hfa⟩ := fits_mem hw ht hf
 have hp : possB l = true := (poss_fa hw).2 ⟨_, hfa⟩
 obtain ⟨W, hW, hE⟩ := expl_ok ok h hm
 have hfl := ((fits_iff hw ht).1 hf).2
 have s1 := (flows_spn hw hp (by omega : x ≤ l.gives.length)).bd _ hfa
 have s2 := (lostAll_spn hw hp (by omega : x ≤ y) (by omega)).bd _ hfa
 have s3 := (lost_spn hw hW (Nat.zero_le _) (Nat.le_refl _)).bd _ hfl
 rw [lsum_loss] at s2 s3
 have s30 : lsum t l.gives.length - lsum t 0 = lsum t l.gives.length := by show _ - (0 : Int) = _; omega
 rw [s30] at s3
 have hlo := lost_ok ok h hp (by omega : x ≤ y) (by omega)
 have hfo := flows_ok ok h hp (by omega : x ≤ l.gives.length)
 generalize flowsS l x = f1 at s1 hfo
 generalize lostAll l x y = f2 at s2 hlo
 generalize lostS l W 0 l.gives.length = f3 at s3 hE
 obtain ⟨u1, v1⟩ := f1
 obtain ⟨u2, v2⟩ := f2
 obtain ⟨u3, v3⟩ := f3
 simp only at s1 s2 s3
 have hl100 := sets_100 hw
 have hxx : ∀ x ∈ setsOut l, okL x.length := fun x hx => by
  have := setsL_le2 ((mem_setsOut hw).1 hx).1
  show _ < _; omega
 have hli := listed_pc (setsOut l) (tapL t) (by show _ < _; omega) hxx (hxx _ hm)
 rw [decide_eq_true hm] at hli
 have hTp := Tapped_pc t (by omega)
 rw [hp]
 simp only [go_sem, extractA, y0, decide_false, un_not, Bool.not_true, reduceEqDiff, Nat.reduceBEq, reduceAdd, reduceIte, reduceCtorEq, reduceLeDiff]
 refine cp n21 (known_ok ok h hp) (SubL.refl _) ?_
 simp only [go_sem, extractA, reduceEqDiff, Nat.reduceBEq, reduceAdd, reduceIte, reduceCtorEq, reduceLeDiff]
 refine cp n22 (sets_ok ok h hp) (SubL.refl _) ?_
 simp only [go_sem, extractA, reduceEqDiff, Nat.reduceBEq, reduceAdd, reduceIte, reduceCtorEq, reduceLeDiff]
 refine cp n34 hfo (SubL.refl _) ?_
 simp only [go_sem, extractA, put_eq, reduceEqDiff, Nat.reduceBEq, reduceAdd, reduceIte, reduceCtorEq, reduceLeDiff]
 refine cp n35 hlo (SubL.refl _) ?_
 simp only [go_sem, extractA, put_eq, reduceEqDiff, Nat.reduceBEq, reduceAdd, reduceIte, reduceCtorEq, reduceLeDiff]
 refine qp n67 hTp (SubL.refl _) ?_
 simp only [go_sem, reduceEqDiff, Nat.reduceBEq, reduceAdd, reduceIte, reduceCtorEq, reduceLeDiff]
 refine qp n30 hE (SubL.refl _) ?_
 have c1 : ¬ (((rKnown l).length : Int) ≠ l.gives.length) := by rw [words_len]; exact fun h => h rfl
 have c2 : ¬ (((setsOut l).length : Int) > 100) := by omega
 simp only [go_sem, extractA, put_eq, y0, decide_false, builtinA, c1, c2, reduceEqDiff, Nat.reduceBEq, reduceAdd, reduceIte, reduceCtorEq, reduceLeDiff]
 refine cp n67 hTp (SubL.refl _) ?_
 simp only [go_sem, reduceEqDiff, Nat.reduceBEq, reduceAdd, reduceIte, reduceCtorEq, reduceLeDiff]
 refine cp n31 hli (SubL.refl _) ?_
 simp only [go_sem, un_not, Bool.not_true, reduceEqDiff, Nat.reduceBEq, reduceAdd, reduceIte, reduceCtorEq, reduceLeDiff]
 refine true_loop l hln t ht hm x y (by omega) (by omega) _ _ _ _ _ _ _ ?_
 simp only [go_sem, reduceEqDiff, Nat.reduceBEq, reduceAdd, reduceIte, reduceCtorEq, reduceLeDiff]
 refine cp n68 (Flow_pc l hln t ht x (by omega)) (SubL.refl _) ?_
 have g1 : flowT l t x ≥ u1 := s1.1
 have g2 : flowT l t x ≤ v1 := s1.2
 have g3 : lsum t y - lsum t x ≥ u2 := s2.1
 have g4 : lsum t y - lsum t x ≤ v2 := s2.2
 have g5 : lsum t l.gives.length ≥ u3 := s3.1
 have g6 : lsum t l.gives.length ≤ v3 := s3.2
 simp only [go_sem, decide_true, g1, g2, g3, g4, g5, g6, reduceEqDiff, Nat.reduceBEq, reduceAdd, reduceIte, reduceCtorEq, reduceLeDiff]
 refine cp n20 known_pc (SubL.refl _) ?_
 simp only [go_sem, Tryz.f16, reduceEqDiff, Nat.reduceBEq, reduceAdd, reduceIte, reduceCtorEq, reduceLeDiff]
end Go.Av.Fx
end
