/- Part 25 of the proof. -/
import Derived.Test.YtlagjjpbknpdkaaGreatDoorP24
import Derived.Test.YtlagjjpbknpdkaaGreatDoorP20
import Derived.Test.YtlagjjpbknpdkaaGreatDoorP23
set_option linter.all false
set_option linter.unusedVariables false
set_option linter.unusedSimpArgs false
set_option linter.unusedSectionVars false
open Nat (reduceEqDiff reduceAdd reduceLeDiff)
section
namespace Go.Av.Fx
open Go Go.Av Go.Av.Tb Go.Proofs
theorem Sub.map {α : Type} (f g : α → AV) (h : ∀ a, Sub (f a) (g a)) (L : List α) (n : Nat) (t : Tail) : Sub (.slice (L.map f) n t) (.slice (L.map g) n .unk) := by
 intro c x hx
 generalize hl : L.map f = l at hx
 cases hx with
 | slice _ _ _ b off cap vs hc hk hr he ht =>
  subst hl
  refine .slice _ n .unk b off cap vs hc (fun j hj => hk j (by simpa using hj)) (fun j y hy => ?_) (fun e => by cases e) (fun k e => by cases e)
  rw [List.getElem?_map] at hy
  cases e : L[j]? with
  | none => rw [e] at hy; cases hy
  | some a =>
   rw [e] at hy; cases hy
   exact h a c _ (hr j (f a) (by rw [List.getElem?_map, e]; rfl))
 | sliceNil _ ht =>
  have : L = [] := by simpa using hl
  subst this
  exact .sliceNil .unk (fun k e => by cases e)
theorem askM : askE lineM true = 0 := by simp [askE, kM_line, kM_poss]
theorem okM : okLine lineM := ⟨by decide, by decide⟩
theorem okN : okLine lineN := ⟨by decide, by decide⟩
theorem q1 : PC Tryz.prog 41 [lineA lineN] (.pure (.tuple [.bool false, .int .i64 0])) := by
 have := Possible_pc lineN okN
 rw [kN_line, kN_poss] at this; exact this
theorem q2 : PC Tryz.prog 22 [lineA lineM] (.pure (.tuple [sll [[0], [1], [2]], .int .i64 0])) := by
 have := Sets_pc lineM okM
 unfold setsA at this
 rw [if_pos askM, kM_sets] at this; exact this
theorem q3 : PC Tryz.prog 21 [lineA lineM] (.pure (.tuple [sl [2, 2, 2], .int .i64 0])) := by
 have := Known_pc lineM okM
 unfold knownA at this
 rw [if_pos askM, show lineM.gives.length = 3 from rfl, kM_words] at this; exact this
theorem q4 : PC Tryz.prog 34 [lineA lineM, .int .i64 1] (.pure (.tuple [spA ⟨78, 94⟩, .int .i64 0])) := by
 have := Flows_pc lineM okM 1
 unfold flowsA at this
 rw [show inB 1 0 lineM.gives.length = true from rfl, if_pos askM, show Int.toNat 1 = 1 from rfl, kM_flows] at this; exact this
theorem q5 : PC Tryz.prog 35 [lineA lineM, .int .i64 0, .int .i64 3] (.pure (.tuple [spA ⟨8, 15⟩, .int .i64 0])) := by
 have := Lost_pc lineM okM 0 3
 unfold lostA at this
 rw [show fineLost lineM 0 3 = true from rfl, if_pos askM, show Int.toNat 0 = 0 from rfl, show Int.toNat 3 = 3 from rfl, kM_lost] at this; exact this
theorem q6 : PC Tryz.prog 30 [lineA lineM, sl [1]] (.pure (.tuple [spA ⟨8, 15⟩, .int .i64 0])) := by
 have := Explains_pc lineM okM [1] (by decide)
 unfold explA at this
 rw [if_pos ⟨kM_line, by decide⟩, if_pos (show isSetB lineM [1] = true by decide +kernel)] at this
 have h := kM_expl
 cases hx : explM lineM [1] with
 | none => rw [hx] at h; cases h
 | some W =>
  rw [hx] at h this
  have h : lostS lineM W 0 3 = ⟨8, 15⟩ := by simpa using h
  simp only [show lineM.gives.length = 3 from rfl, h] at this
  exact this
theorem q7 : PC Tryz.prog 43 [lineA lineM, .int .i64 2] (.pure (.tuple [.int .i64 1, .int .i64 2, .int .i64 0])) := by
 have := Next_pc lineM okM 2
 unfold nextA at this
 rw [show inB 2 0 20 = true from rfl, if_pos askM, kM_next] at this; exact this
theorem q8 : PC Tryz.prog 47 [lineA lineM, sl [1, 2], .int .i64 2] (.pure (.tuple [.bool true, .int .i64 0])) := by
 have := Tells_pc lineM okM [1, 2] (by decide) 2
 unfold tellsA at this
 rw [show fineTells lineM [1, 2] 2 = true by decide +kernel, if_pos askM, kM_tells] at this; exact this
theorem q9 : PC Tryz.prog 48 [lineA lineM, .int .i64 2] (.pure (.tuple [sl [1, 2], .int .i64 0])) := by
 have := Plan_pc lineM okM 2
 unfold planA at this
 rw [show inB 2 0 20 = true from rfl, if_pos askM, kM_plan] at this; exact this
theorem q10 : PC Tryz.prog 53 [lineA lineN] (.pure (.tuple [.int .i64 0, .int .i64 2, .int .i64 0])) := by
 have := Clash_pc lineN okN
 unfold clashA at this
 rw [if_pos kN_line, kN_clash] at this; exact this
theorem q11 : PC Tryz.prog 54 [lineA lineN] (.pure (.tuple [sl [0], .int .i64 0])) := by
 have := Wrong_pc lineN okN
 unfold wrongA at this
 rw [if_pos kN_line, kN_wrong] at this; exact this
theorem q12 : PC Tryz.prog 61 [.str exT] (.pure (.tuple [lineA lineT, .int .i64 0])) := by
 have := Read_pc exT (by decide)
 unfold readA at this
 rw [if_pos (by decide), kT] at this
 simp only [if_pos kT_line] at this
 exact this
theorem q13 : PC Tryz.prog 62 [lineA lineT] (.pure (.str exT)) := by
 have := rPrint_pc lineT (isLine_iff.1 kT_line).plain
 rw [kT_text] at this; exact this
@[go_sem] theorem ne42a : binA T .neq 42 (.agg [.int .i64 78, .int .i64 94]) (.agg [.int .i64 78, .int .i64 94]) = some (.bool false) := rfl
@[go_sem] theorem ne42b : binA T .neq 42 (.agg [.int .i64 8, .int .i64 15]) (.agg [.int .i64 8, .int .i64 15]) = some (.bool false) := rfl
set_option maxRecDepth 100000 in
theorem known_pc : PC Tryz.prog 20 [] (.pure (.bool true)) := by
 refine PC.of_empty (AC.run (E_ok _) mix Tryz.func20 m20 rfl rfl rfl (Nat.le_of_ble_eq_true rfl) ?_) rfl rfl
 simp only [go_sem, reduceEqDiff, Nat.reduceBEq, reduceAdd, reduceIte, reduceCtorEq, reduceLeDiff]
 refine cp n73 N_pc (SubL.refl _) ?_
 simp only [go_sem, reduceEqDiff, Nat.reduceBEq, reduceAdd, reduceIte, reduceCtorEq, reduceLeDiff]
 refine cp n41 q1 (SubL.refl _) ?_
 simp only [go_sem, extractA, reduceEqDiff, Nat.reduceBEq, reduceAdd, reduceIte, reduceCtorEq, reduceLeDiff]
 refine cp n74 M_pc (SubL.refl _) ?_
 simp only [go_sem, reduceEqDiff, Nat.reduceBEq, reduceAdd, reduceIte, reduceCtorEq, reduceLeDiff]
 refine cp n22 q2 (SubL.refl _) ?_
 simp only [go_sem, extractA, reduceEqDiff, Nat.reduceBEq, reduceAdd, reduceIte, reduceCtorEq, reduceLeDiff]
 refine cp n74 M_pc (SubL.refl _) ?_
 simp only [go_sem, reduceEqDiff, Nat.reduceBEq, reduceAdd, reduceIte, reduceCtorEq, reduceLeDiff]
 refine cp n21 q3 (SubL.refl _) ?_
 simp only [go_sem, extractA, reduceEqDiff, Nat.reduceBEq, reduceAdd, reduceIte, reduceCtorEq, reduceLeDiff]
 refine cp n74 M_pc (SubL.refl _) ?_
 simp only [go_sem, reduceEqDiff, Nat.reduceBEq, reduceAdd, reduceIte, reduceCtorEq, reduceLeDiff]
 refine cp n34 q4 (SubL.refl _) ?_
 simp only [go_sem, extractA, put_eq, reduceEqDiff, Nat.reduceBEq, reduceAdd, reduceIte, reduceCtorEq, reduceLeDiff]
 refine cp n74 M_pc (SubL.refl _) ?_
 simp only [go_sem, reduceEqDiff, Nat.reduceBEq, reduceAdd, reduceIte, reduceCtorEq, reduceLeDiff]
 refine cp n35 q5 (SubL.refl _) ?_
 simp only [go_sem, extractA, put_eq, reduceEqDiff, Nat.reduceBEq, reduceAdd, reduceIte, reduceCtorEq, reduceLeDiff]
 refine cp n74 M_pc (SubL.refl _) ?_
 simp only [go_sem, reduceEqDiff, Nat.reduceBEq, reduceAdd, reduceIte, reduceCtorEq, reduceLeDiff]
 refine cp n30 q6 (SubL.cons (Sub.refl _) (SubL.cons (Sub.unk _ _ _) (SubL.refl _))) ?_
 simp only [go_sem, extractA, put_eq, reduceEqDiff, Nat.reduceBEq, reduceAdd, reduceIte, reduceCtorEq, reduceLeDiff]
 refine cp n74 M_pc (SubL.refl _) ?_
 simp only [go_sem, reduceEqDiff, Nat.reduceBEq, reduceAdd, reduceIte, reduceCtorEq, reduceLeDiff]
 refine cp n43 q7 (SubL.refl _) ?_
 simp only [go_sem, extractA, reduceEqDiff, Nat.reduceBEq, reduceAdd, reduceIte, reduceCtorEq, reduceLeDiff]
 refine cp n74 M_pc (SubL.refl _) ?_
 simp only [go_sem, reduceEqDiff, Nat.reduceBEq, reduceAdd, reduceIte, reduceCtorEq, reduceLeDiff]
 refine cp n47 q8 (SubL.cons (Sub.refl _) (SubL.cons (Sub.unk _ _ _) (SubL.refl _))) ?_
 simp only [go_sem, extractA, reduceEqDiff, Nat.reduceBEq, reduceAdd, reduceIte, reduceCtorEq, reduceLeDiff]
 refine cp n74 M_pc (SubL.refl _) ?_
 simp only [go_sem, reduceEqDiff, Nat.reduceBEq, reduceAdd, reduceIte, reduceCtorEq, reduceLeDiff]
 refine cp n48 q9 (SubL.refl _) ?_
 simp only [go_sem, extractA, reduceEqDiff, Nat.reduceBEq, reduceAdd, reduceIte, reduceCtorEq, reduceLeDiff]
 refine cp n73 N_pc (SubL.refl _) ?_
 simp only [go_sem, reduceEqDiff, Nat.reduceBEq, reduceAdd, reduceIte, reduceCtorEq, reduceLeDiff]
 refine cp n53 q10 (SubL.refl _) ?_
 simp only [go_sem, extractA, reduceEqDiff, Nat.reduceBEq, reduceAdd, reduceIte, reduceCtorEq, reduceLeDiff]
 refine cp n73 N_pc (SubL.refl _) ?_
 simp only [go_sem, reduceEqDiff, Nat.reduceBEq, reduceAdd, reduceIte, reduceCtorEq, reduceLeDiff]
 refine cp n54 q11 (SubL.refl _) ?_
 simp only [go_sem, extractA, reduceEqDiff, Nat.reduceBEq, reduceAdd, reduceIte, reduceCtorEq, reduceLeDiff]
 refine cp n61 q12 (SubL.refl _) ?_
 have z0 : ¬ ((0 : Int) ≠ 0) := by decide
 simp only [go_sem, extractA, put_eq, z0, decide_false, reduceEqDiff, Nat.reduceBEq, reduceAdd, reduceIte, reduceCtorEq, reduceLeDiff]
 refine cp n26 (SameSets_pc [[0], [1], [2]] [[0], [1], [2]] (by decide) (by decide) (by decide) (by decide)) (SubL.cons (Sub.refl _) (SubL.cons (Sub.map (fun s => .slice (ints s) s.length .exact) sl (fun s => Sub.unk _ _ _) [[0], [1], [2]] 3 .exact) (SubL.refl _))) ?_
 rw [decide_eq_true rfl]
 simp only [go_sem, un_not, Bool.not_true, reduceEqDiff, Nat.reduceBEq, reduceAdd, reduceIte, reduceCtorEq, reduceLeDiff]
 refine cp n24 (SameWords_pc [2, 2, 2] [2, 2, 2] (by decide) (by decide)) (SubL.cons (Sub.refl _) (SubL.cons (Sub.unk _ _ _) (SubL.refl _))) ?_
 rw [decide_eq_true rfl]
 have z1 : decide ((1 : Int) = 1) = true := rfl
 have z2 : decide ((2 : Int) = 2) = true := rfl
 have z3 : decide ((0 : Int) = 0) = true := rfl
 simp only [go_sem, un_not, Bool.not_true, put_eq, z1, z2, z3, decide_true, reduceEqDiff, Nat.reduceBEq, reduceAdd, reduceIte, reduceCtorEq, reduceLeDiff]
 refine cp n50 (Same_pc [1, 2] [1, 2] (by decide) (by decide)) (SubL.cons (Sub.refl _) (SubL.cons (Sub.unk _ _ _) (SubL.refl _))) ?_
 rw [decide_eq_true rfl]
 simp only [go_sem, un_not, Bool.not_true, put_eq, z1, z2, z3, decide_true, reduceEqDiff, Nat.reduceBEq, reduceAdd, reduceIte, reduceCtorEq, reduceLeDiff]
 refine cp n50 (Same_pc [0] [0] (by decide) (by decide)) (SubL.cons (Sub.refl _) (SubL.cons (Sub.unk _ _ _) (SubL.refl _))) ?_
 rw [decide_eq_true rfl]
 simp only [go_sem, un_not, Bool.not_true, put_eq, z1, z2, z3, decide_true, reduceEqDiff, Nat.reduceBEq, reduceAdd, reduceIte, reduceCtorEq, reduceLeDiff]
 refine cp n62 q13 (SubL.refl _) ?_
 have z4 : binA T .eql 9 (.str exT) (.str ⟨#[108, 105, 110, 101, 32, 49, 32, 49, 32, 48, 10, 115, 116, 114, 101, 116, 99, 104, 32, 48, 10, 101, 110, 100, 32, 48, 53, 49, 10]⟩) = some (.bool true) := (show binA T .eql 9 (.str exT) (.str exT) = some (.bool true) by rw [eqS, decide_eq_true rfl])
 simp only [go_sem, z4, Tryz.f20, reduceEqDiff, Nat.reduceBEq, reduceAdd, reduceIte, reduceCtorEq, reduceLeDiff]
end Go.Av.Fx
end
section
namespace Go.Av.Fx
open Go Go.Av Go.Proofs
open Go.Fw (Sq ent Bd Mat Tells Good)
def gsum (l : LLine) : Nat → Int
 | 0 => 0
 | p + 1 => gsum l p + l.gives.getD p 0
theorem gsum_bd {l : LLine} (h : Lw l) : ∀ p : Nat, 0 ≤ gsum l p ∧ gsum l p ≤ 60 * p
 | 0 => ⟨Int.le_refl _, Int.le_refl _⟩
 | p + 1 => by
  have h1 := gsum_bd h p
  have h2 := h.give p
  show 0 ≤ gsum l p + _ ∧ gsum l p + _ ≤ _
  omega
theorem gsum_mono {l : LLine} (h : Lw l) {a : Nat} : ∀ {b : Nat}, a ≤ b → gsum l a ≤ gsum l b
 | 0, hab => by rw [show a = 0 by omega]; exact Int.le_refl _
 | b + 1, hab => by
  by_cases e : a = b + 1
  ·rw [e]; exact Int.le_refl _
  ·have h1 := gsum_mono h (a := a) (b := b) (by omega)
   have h2 := h.give b
   show gsum l a ≤ gsum l b + _
   omega
theorem sumW_eq {l : LLine} (h : Lw l) {a : Nat} : ∀ k : Nat, a + k ≤ l.gives.length → sumW ((l.gives.drop a).take k) = gsum l (a + k) - gsum l a
 | 0, hk => by simp [sumW]
 | k + 1, hk => by
  have hp := h.pts
  have ih := sumW_eq h (a := a) k (by omega)
  have hl : k < (l.gives.drop a).length := by rw [List.length_drop]; omega
  unfold sumW at ih ⊢
  rw [foldl_take _ _ _ _ hl, ih]
  have e : (l.gives.drop a)[k] = l.gives.getD (a + k) 0 := by
   have hlt : a + k < l.gives.length := by omega
   rw [List.getElem_drop, List.getD_eq_getElem?_getD, List.getElem?_eq_getElem hlt]; rfl
  have h1 := gsum_bd h (a + k)
  have h2 := gsum_bd h a
  have h3 := h.give (a + k)
  rw [e, wrap64 (by omega), show a + (k + 1) = a + k + 1 by omega]
  show _ = gsum l (a + k) + _ - gsum l a
  omega
structure Spn (P : (Nat → Int) → Prop) (g : (Nat → Int) → Int) (sp : Span) : Prop where
 bd : ∀ f, P f → sp.low ≤ g f ∧ g f ≤ sp.high
 lo : ∃ f, P f ∧ g f = sp.low
 hi : ∃ f, P f ∧ g f = sp.high
theorem Spn.imp {P Q : (Nat → Int) → Prop} {g : (Nat → Int) → Int} {a : Span} (h : Spn P g a) (e : ∀ f, P f ↔ Q f) : Spn Q g a := by
 obtain ⟨f1, p1, e1⟩ := h.lo
 obtain ⟨f2, p2, e2⟩ := h.hi
 exact ⟨fun f hf => h.bd f ((e f).2 hf), ⟨f1, (e _).1 p1, e1⟩, ⟨f2, (e _).1 p2, e2⟩⟩
theorem Spn.join {P Q : (Nat → Int) → Prop} {g : (Nat → Int) → Int} {a b : Span} (h : Spn P g a) (h' : Spn Q g b) : Spn (fun f => P f ∨ Q f) g (joinS a b) := by
 obtain ⟨f1, p1, e1⟩ := h.lo
 obtain ⟨f2, p2, e2⟩ := h.hi
 obtain ⟨f3, p3, e3⟩ := h'.lo
 obtain ⟨f4, p4, e4⟩ := h'.hi
 unfold joinS
 refine ⟨?_, ?_, ?_⟩
 ·rintro f (hf | hf)
  ·have := h.bd f hf
   constructor
   ·show (if b.low < a.low then b.low else a.low) ≤ _; split <;> omega
   ·show _ ≤ (if b.high > a.high then b.high else a.high); split <;> omega
  ·have := h'.bd f hf
   constructor
   ·show (if b.low < a.low then b.low else a.low) ≤ _; split <;> omega
   ·show _ ≤ (if b.high > a.high then b.high else a.high); split <;> omega
 ·by_cases c : b.low < a.low
  ·exact ⟨f3, .inr p3, by show _ = if b.low < a.low then b.low else a.low; rw [if_pos c]; exact e3⟩
  ·exact ⟨f1, .inl p1, by show _ = if b.low < a.low then b.low else a.low; rw [if_neg c]; exact e1⟩
 ·by_cases c : b.high > a.high
  ·exact ⟨f4, .inr p4, by show _ = if b.high > a.high then b.high else a.high; rw [if_pos c]; exact e4⟩
  ·exact ⟨f2, .inl p2, by show _ = if b.high > a.high then b.high else a.high; rw [if_neg c]; exact e2⟩
theorem Spn.fold {α : Type} {P : α → (Nat → Int) → Prop} {g : (Nat → Int) → Int} {f : α → Span} : ∀ (L : List α) {Q : (Nat → Int) → Prop} {o : Span}, Spn Q g o → (∀ t ∈ L, Spn (P t) g (f t)) →
  Spn (fun x => Q x ∨ ∃ t, t ∈ L ∧ P t x) g (L.foldl (fun o t => joinS o (f t)) o)
 | [], Q, o, h, _ => h.imp fun x => ⟨.inl, fun hx => hx.elim id fun ⟨t, ht, _⟩ => by cases ht⟩
 | t :: L, Q, o, h, hL => by
  refine (Spn.fold L (h.join (hL t List.mem_cons_self)) fun t ht => hL t (List.mem_cons_of_mem _ ht)).imp fun x => ?_
  constructor
  ·rintro ((h | h) | ⟨u, hu, h⟩)
   ·exact .inl h
   ·exact .inr ⟨t, List.mem_cons_self, h⟩
   ·exact .inr ⟨u, List.mem_cons_of_mem _ hu, h⟩
  ·rintro (h | ⟨u, hu, h⟩)
   ·exact .inl (.inl h)
   ·rcases List.mem_cons.1 hu with rfl | hu
    ·exact .inl (.inr h)
    ·exact .inr ⟨u, hu, h⟩
theorem over_spn {P : Theft → (Nat → Int) → Prop} {g : (Nat → Int) → Int} {f : Theft → Span} {L : List Theft} (hne : 0 < L.length) (h : ∀ t ∈ L, Spn (P t) g (f t)) : Spn (fun x => ∃ t, t ∈ L ∧ P t x) g (overS L f) := by
 cases L with
 | nil => cases hne
 | cons t L =>
  refine (Spn.fold (t :: L) (h t List.mem_cons_self) h).imp fun x => ?_
  exact ⟨fun hx => hx.elim (fun hx => ⟨t, List.mem_cons_self, hx⟩) id, .inr⟩
theorem span_eq {l : LLine} (h : Lw l) {s : List Int} {W : Mat} (hW : explM l s = some W) {a b : Nat} (ha : a < l.gives.length + 2) (hb : b < l.gives.length + 2) : spanM W a b = ⟨-ent W b a, ent W a b⟩ := by
 have := expl_bd h hW hb ha
 unfold spanM
 rw [w64_eq (by omega), Int.zero_sub]
theorem flow_spn {l : LLine} (h : Lw l) {s : List Int} {W : Mat} (hW : explM l s = some W) {p : Nat} (hp : p ≤ l.gives.length) : Spn (Fl l s) (fun f => f p) (spanM W (l.gives.length + 1) p) := by
 rw [span_eq h hW (by omega) (by omega)]
 have h1 := expl_mx h hW (a := l.gives.length + 1) (b := p) (by omega) (by omega)
 have h2 := expl_mx h hW (a := p) (b := l.gives.length + 1) (by omega) (by omega)
 have e1 : ∀ f, ex l f p = f p := fun f => by unfold ex; rw [if_pos hp]
 have e2 : ∀ f, ex l f (l.gives.length + 1) = 0 := fun f => by unfold ex; rw [if_neg (by omega)]
 simp only [e1, e2] at h1 h2
 obtain ⟨f1, p1, q1⟩ := h1.2
 obtain ⟨f2, p2, q2⟩ := h2.2
 refine ⟨fun f hf => ?_, ⟨f2, p2, ?_⟩, ⟨f1, p1, ?_⟩⟩
 ·have := h1.1 f hf; have := h2.1 f hf
  simp only at *; omega
 ·simp only at *; omega
 ·simp only at *; omega
theorem lost_eq {l : LLine} (h : Lw l) {s : List Int} {W : Mat} (hW : explM l s = some W) {a b : Nat} (hab : a ≤ b) (hb : b ≤ l.gives.length) : lostS l W a b = ⟨-ent W a b - (gsum l b - gsum l a), ent W b a - (gsum l b - gsum l a)⟩ := by
 have hp := h.pts
 have h1 := expl_bd h hW (a := a) (b := b) (by omega) (by omega)
 have h2 := expl_bd h hW (a := b) (b := a) (by omega) (by omega)
 have h3 := gsum_bd h a
 have h4 := gsum_bd h b
 have e := sumW_eq h (a := a) (b - a) (by omega)
 rw [show a + (b - a) = b by omega] at e
 unfold lostS
 rw [span_eq h hW (by omega) (by omega), e]
 simp only
 rw [w64_eq (by omega), w64_eq (by omega)]
def lossF (l : LLine) (a b : Nat) (f : Nat → Int) : Int := f a - f b - (gsum l b - gsum l a)
theorem lost_spn {l : LLine} (h : Lw l) {s : List Int} {W : Mat} (hW : explM l s = some W) {a b : Nat} (hab : a ≤ b) (hb : b ≤ l.gives.length) : Spn (Fl l s) (lossF l a b) (lostS l W a b) := by
 rw [lost_eq h hW hab hb]
 have h1 := expl_mx h hW (a := a) (b := b) (by omega) (by omega)
 have h2 := expl_mx h hW (a := b) (b := a) (by omega) (by omega)
 have e1 : ∀ f, ex l f a = f a := fun f => by unfold ex; rw [if_pos (by omega)]
 have e2 : ∀ f, ex l f b = f b := fun f => by unfold ex; rw [if_pos (by omega)]
 simp only [e1, e2] at h1 h2
 obtain ⟨f1, p1, q1⟩ := h1.2
 obtain ⟨f2, p2, q2⟩ := h2.2
 unfold lossF
 refine ⟨fun f hf => ?_, ⟨f1, p1, ?_⟩, ⟨f2, p2, ?_⟩⟩
 ·have := h1.1 f hf; have := h2.1 f hf
  simp only at *; omega
 ·simp only at *; omega
 ·simp only at *; omega
def Fa (l : LLine) (f : Nat → Int) : Prop := ∃ s, s ∈ setsL l.gives.length ∧ (s.length : Int) ≤ l.taps ∧ Fl l s f
theorem fa_iff {l : LLine} (h : Lw l) (f : Nat → Int) : (∃ t, t ∈ theftsL l ∧ Fl l t.1 f) ↔ Fa l f := by
 constructor
 ·rintro ⟨t, ht, hf⟩
  obtain ⟨h1, h2⟩ := mem_thefts.1 ht
  exact ⟨t.1, h1, ((expl_iff h t.1).1 (by rw [h2]; rfl)).1, hf⟩
 ·rintro ⟨s, hs, ht, hf⟩
  have := (expl_iff h s).2 ⟨ht, f, hf⟩
  obtain ⟨W, hW⟩ := Option.isSome_iff_exists.1 this
  exact ⟨(s, W), mem_thefts.2 ⟨hs, hW⟩, hf⟩
theorem poss_fa {l : LLine} (h : Lw l) : possB l = true ↔ ∃ f, Fa l f := by
 rw [poss_iff h]
 exact ⟨fun ⟨s, h1, h2, f, h3⟩ => ⟨f, s, h1, h2, h3⟩, fun ⟨f, s, h1, h2, h3⟩ => ⟨s, h1, h2, f, h3⟩⟩
theorem poss_len {l : LLine} : possB l = true ↔ 0 < (theftsL l).length := by
 unfold possB; rw [decide_eq_true_iff]
theorem flows_spn {l : LLine} (h : Lw l) (hp : possB l = true) {p : Nat} (hpt : p ≤ l.gives.length) : Spn (Fa l) (fun f => f p) (flowsS l p) :=
 (over_spn (P := fun t => Fl l t.1) (poss_len.1 hp) fun t ht => flow_spn h (mem_thefts.1 ht).2 hpt).imp (fa_iff h)
theorem lostAll_spn {l : LLine} (h : Lw l) (hp : possB l = true) {a b : Nat} (hab : a ≤ b) (hb : b ≤ l.gives.length) : Spn (Fa l) (lossF l a b) (lostAll l a b) :=
 (over_spn (P := fun t => Fl l t.1) (poss_len.1 hp) fun t ht => lost_spn h (mem_thefts.1 ht).2 hab hb).imp (fa_iff h)
end Go.Av.Fx
end
section
namespace Go.Av.Fx
open Go Go.Av Go.Av.Tb Go.Proofs
end Go.Av.Fx
end
section
namespace Go.Av.Fx
open Go Go.Av Go.Proofs
open Go.Fw (Sq ent Bd Mat Tells Good)
end Go.Av.Fx
end
section
namespace Go.Av.Fx
open Go Go.Av Go.Proofs
open Go.Fw (Sq ent Bd Mat Tells Good)
def moreL (l : LLine) (c : Cnt) : LLine := { l with counts := l.counts ++ [c] }
def addedL (l : LLine) (p : Int) (read off : Int) : LLine := moreL l ⟨p, susLo read off, susHi read off⟩
theorem more_lw {l : LLine} (h : Lw l) (hc : l.counts.length < 1000) {c : Cnt} (hk : (0 ≤ c.point ∧ c.point ≤ l.gives.length) ∧ 0 ≤ c.low ∧ c.low ≤ c.high ∧ c.high ≤ 400) : Lw (moreL l c) := by
 refine ⟨h.pts, by simp [moreL]; omega, h.least, h.most, h.taps, h.gives, fun d hd => ?_⟩
 rcases List.mem_append.1 hd with hd | hd
 ·exact h.counts d hd
 ·simp at hd; subst hd; exact hk
theorem more_ln {l : LLine} (h : Ln l) (hc : l.counts.length < 8) {c : Cnt} (hk : (0 ≤ c.point ∧ c.point ≤ l.gives.length) ∧ 0 ≤ c.low ∧ c.low ≤ c.high ∧ c.high ≤ 400) : Ln (moreL l c) :=
 (more_lw h.lw (by omega) hk).ln (by simp [moreL]; omega)
theorem more_fl {l : LLine} {c : Cnt} {s : List Int} {f : Nat → Int} : Fl (moreL l c) s f ↔ Fl l s f ∧ c.low ≤ f c.point.toNat ∧ f c.point.toNat ≤ c.high := by
 constructor
 ·intro h
  exact ⟨⟨h.pos, h.top, h.step, fun d hd => h.cnt d (List.mem_append_left _ hd)⟩, h.cnt c (List.mem_append_right _ List.mem_cons_self)⟩
 ·rintro ⟨h, hc⟩
  refine ⟨h.pos, h.top, h.step, fun d hd => ?_⟩
  rcases List.mem_append.1 hd with hd | hd
  ·exact h.cnt d hd
  ·simp at hd; subst hd; exact hc
theorem more_fa {l : LLine} {c : Cnt} {f : Nat → Int} : Fa (moreL l c) f ↔ Fa l f ∧ c.low ≤ f c.point.toNat ∧ f c.point.toNat ≤ c.high := by
 unfold Fa
 constructor
 ·rintro ⟨s, h1, h2, h3⟩
  obtain ⟨h3, h4⟩ := more_fl.1 h3
  exact ⟨⟨s, h1, h2, h3⟩, h4⟩
 ·rintro ⟨⟨s, h1, h2, h3⟩, h4⟩
  exact ⟨s, h1, h2, more_fl.2 ⟨h3, h4⟩⟩
theorem sus_bd {read off : Int} (hr : 0 ≤ read ∧ read ≤ 400) (ho : 0 ≤ off) : 0 ≤ susLo read off ∧ susLo read off ≤ susHi read off ∧ susHi read off ≤ 400 := by
 unfold susLo susHi
 split <;> split <;> omega
theorem added_lw {l : LLine} (h : Lw l) (hc : l.counts.length < 1000) {p read off : Int} (hp : 0 ≤ p ∧ p ≤ l.gives.length) (hr : 0 ≤ read ∧ read ≤ 400) (ho : 0 ≤ off) : Lw (addedL l p read off) :=
 more_lw h hc ⟨hp, sus_bd hr ho⟩
theorem added_ln {l : LLine} (h : Ln l) (hc : l.counts.length < 8) {p read off : Int} (hp : 0 ≤ p ∧ p ≤ l.gives.length) (hr : 0 ≤ read ∧ read ≤ 400) (ho : 0 ≤ off) : Ln (addedL l p read off) :=
 more_ln h hc ⟨hp, sus_bd hr ho⟩
theorem added0 {l : LLine} (h : Lw l) (hc : l.counts.length < 1000) {p read : Int} (hp : 0 ≤ p ∧ p ≤ l.gives.length) (hr : 0 ≤ read ∧ read ≤ 400) : possB (addedL l p read 0) = true ↔ ∃ f, Fa l f ∧ f p.toNat = read := by
 rw [poss_fa (added_lw h hc hp hr (Int.le_refl _))]
 have e1 : susLo read 0 = read := by unfold susLo; split <;> omega
 have e2 : susHi read 0 = read := by unfold susHi; split <;> omega
 unfold addedL
 simp only [more_fa, e1, e2]
 exact exists_congr fun f => and_congr Iff.rfl ⟨fun h => by omega, fun h => by omega⟩
theorem fa_bd {l : LLine} (h : Lw l) {f : Nat → Int} (hf : Fa l f) {p : Nat} (hp : p ≤ l.gives.length) : 0 ≤ f p ∧ f p ≤ 400 := by
 obtain ⟨s, _, _, h3⟩ := hf
 exact h3.bd h hp
theorem loss_pos {l : LLine} (h : Lw l) {s : List Int} {f : Nat → Int} (hf : Fl l s f) {a : Nat} : ∀ {b : Nat}, a ≤ b → b ≤ l.gives.length → 0 ≤ lossF l a b f
 | 0, hab, hb => by rw [show a = 0 by omega]; unfold lossF; omega
 | b + 1, hab, hb => by
  by_cases e : a = b + 1
  ·rw [e]; unfold lossF; omega
  ·have h1 := loss_pos h hf (a := a) (b := b) (by omega) (by omega)
   have h2 := hf.step b (by omega)
   have h3 := h.least
   unfold lossF at h1 ⊢
   have e : gsum l (b + 1) = gsum l b + l.gives.getD b 0 := rfl
   rw [e]
   have h4 : l.gives.getD b 0 ≤ lowL l s b := by unfold lowL; split <;> omega
   omega
theorem ends_flow {l : LLine} (h : Lw l) (hp : possB l = true) {p : Nat} (hpt : p ≤ l.gives.length) : 0 ≤ (flowsS l p).low ∧ (flowsS l p).low ≤ (flowsS l p).high ∧ (flowsS l p).high ≤ 400 := by
 have hs := flows_spn h hp hpt
 obtain ⟨f1, p1, e1⟩ := hs.lo
 obtain ⟨f2, p2, e2⟩ := hs.hi
 have := hs.bd f1 p1
 have := fa_bd h p1 hpt
 have := fa_bd h p2 hpt
 omega
theorem ends_poss {l : LLine} (h : Lw l) (hc : l.counts.length < 1000) (hp : possB l = true) {p : Int} (hpt : 0 ≤ p ∧ p ≤ l.gives.length) :
  possB (addedL l p (flowsS l p.toNat).low 0) = true ∧ possB (addedL l p (flowsS l p.toNat).high 0) = true ∧
  ((flowsS l p.toNat).low > 0 → possB (addedL l p ((flowsS l p.toNat).low - 1) 0) = false) ∧ ((flowsS l p.toNat).high < 400 → possB (addedL l p ((flowsS l p.toNat).high + 1) 0) = false) := by
 have hs := flows_spn h hp (p := p.toNat) (by omega)
 have hb := ends_flow h hp (p := p.toNat) (by omega)
 refine ⟨(added0 h hc hpt (by omega)).2 hs.lo, (added0 h hc hpt (by omega)).2 hs.hi, fun hl => ?_, fun hl => ?_⟩
 ·cases hx : possB (addedL l p ((flowsS l p.toNat).low - 1) 0) with
  | false => rfl
  | true =>
   obtain ⟨f, hf, e⟩ := (added0 h hc hpt (by omega)).1 hx
   have := hs.bd f hf
   omega
 ·cases hx : possB (addedL l p ((flowsS l p.toNat).high + 1) 0) with
  | false => rfl
  | true =>
   obtain ⟨f, hf, e⟩ := (added0 h hc hpt (by omega)).1 hx
   have := hs.bd f hf
   omega
theorem ends_small {l : LLine} (h : Lw l) (hp : possB l = true) {a b : Nat} (hab : a ≤ b) (hb : b ≤ l.gives.length) : 0 ≤ (lostAll l a b).low ∧ (lostAll l a b).low ≤ (lostAll l a b).high ∧ (lostAll l a b).high ≤ 400 := by
 have hs := lostAll_spn h hp hab hb
 obtain ⟨f1, p1, e1⟩ := hs.lo
 obtain ⟨f2, p2, e2⟩ := hs.hi
 have h1 := hs.bd f1 p1
 have h2 : 0 ≤ lossF l a b f1 := by obtain ⟨s, _, _, h3⟩ := p1; exact loss_pos h h3 hab hb
 have h3 := fa_bd h p2 (p := a) (by omega)
 have h4 := fa_bd h p2 hb
 have h5 := gsum_mono h hab
 have h6 : lossF l a b f2 ≤ 400 := by unfold lossF; omega
 omega
theorem ends_sum {l : LLine} (h : Lw l) (hp : possB l = true) {a c b : Nat} (hac : a ≤ c) (hcb : c ≤ b) (hb : b ≤ l.gives.length) :
  (lostAll l a c).low + (lostAll l c b).low ≤ (lostAll l a b).low ∧ (lostAll l a b).high ≤ (lostAll l a c).high + (lostAll l c b).high := by
 have hs := lostAll_spn h hp (Nat.le_trans hac hcb) hb
 have h1 := lostAll_spn h hp hac (by omega)
 have h2 := lostAll_spn h hp hcb hb
 obtain ⟨f1, p1, e1⟩ := hs.lo
 obtain ⟨f2, p2, e2⟩ := hs.hi
 have a1 := h1.bd f1 p1; have a2 := h2.bd f1 p1; have a3 := h1.bd f2 p2; have a4 := h2.bd f2 p2
 have key : ∀ f, lossF l a b f = lossF l a c f + lossF l c b f := fun f => by unfold lossF; omega
 rw [key] at e1 e2
 omega
end Go.Av.Fx
end
section
namespace Go.Av.Fx
open Go Go.Av Go.Av.Tb Go.Proofs
end Go.Av.Fx
end
section
namespace Go.Av.Fx
open Go Go.Av Go.Av.Tb Go.Proofs
end Go.Av.Fx
end
section
namespace Go.Av.Fx
open Go Go.Av Go.Av.Tb Go.Proofs
end Go.Av.Fx
end
section
namespace Go.Av.Fx
open Go Go.Av Go.Av.Tb Go.Proofs
theorem flows_ok {l : LLine} (ok : okLine l) (h : isLineB l = true) (hp : possB l = true) {p : Nat} (hpt : p ≤ l.gives.length) : PC Tryz.prog 34 [lineA l, .int .i64 p] (.pure (.tuple [spA (flowsS l p), .int .i64 0])) := by
 have hk := Flows_pc l ok p
 have hin : inB p 0 l.gives.length = true := inB_iff.2 (by omega)
 have he : askE l (inB p 0 l.gives.length) = 0 := by simp [askE, h, hp, hin]
 unfold flowsA at hk
 rw [if_pos he] at hk
 exact hk
theorem lost_ok {l : LLine} (ok : okLine l) (h : isLineB l = true) (hp : possB l = true) {a b : Nat} (hab : a ≤ b) (hb : b ≤ l.gives.length) : PC Tryz.prog 35 [lineA l, .int .i64 a, .int .i64 b] (.pure (.tuple [spA (lostAll l a b), .int .i64 0])) := by
 have hk := Lost_pc l ok a b
 have hf : fineLost l a b = true := by
  unfold fineLost
  rw [inB_iff.2 (by omega), inB_iff.2 (by omega), decide_eq_true (by omega)]; rfl
 have he : askE l (fineLost l a b) = 0 := by simp [askE, h, hp, hf]
 unfold lostA at hk
 rw [if_pos he] at hk
 exact hk
end Go.Av.Fx
end
section
namespace Go.Av.Fx
open Go Go.Av Go.Av.Tb Go.Proofs
theorem cnts_ones (l : List Cnt) : (cnts l).all AV.one = true := by
 rw [List.all_eq_true]
 intro x hx
 unfold cnts at hx
 obtain ⟨c, _, h⟩ := List.mem_flatMap.1 hx
 simp [cntC] at h
 rcases h with rfl | rfl | rfl <;> rfl
theorem app_nil23 {S : St} {cs : List Cnt} {t : Tail} (h0 : 0 < cs.length) (hl : cs.length ≤ 1000) : appendA T S 23 .nilS (.slice (cnts cs) cs.length t) = some (.tok none fun j => .slice (cnts cs) cs.length (.tok j)) := by
 have h1 : descOf T 23 = some (.slice 82) := rfl
 have h2 : T 82 = some ti82 := rfl
 have h3 : ti82.size = 3 := rfl
 have h4 : ti82.bytes = 24 := rfl
 have h5 : heldA S 3 (.slice (cnts cs) cs.length t) = some (cnts cs, cs.length) := by
  show (if (cnts cs).length = cs.length * 3 then some (cnts cs, cs.length) else none) = _
  rw [if_pos (by rw [cnts_len]; omega)]
 unfold appendA
 simp only [h1, h2, h3, h4, h5, cnts_ones, Bool.not_true, Bool.false_eq_true, if_false]
 rw [if_neg (by decide), if_neg (by omega), if_pos (by omega)]
theorem app_tok23 {S : St} {cs : List Cnt} {c : Cnt} {k : Nat} (hl : cs.length ≤ 1000) : appendA T S 23 (.slice (cnts cs) cs.length (.tok k)) (.slice [.int .i64 c.point, .int .i64 c.low, .int .i64 c.high] 1 .exact) = some (.tok (some k) fun j => .slice (cnts (cs ++ [c])) (cs.length + 1) (.tok j)) := by
 rw [app_gen (e := 82) (ei := ti82) (lx := [.int .i64 c.point, .int .i64 c.low, .int .i64 c.high]) (nx := 1) rfl rfl (by decide) rfl (by decide) rfl (by show (cs.length + 1) * 24 ≤ _; omega) (by omega) (by rw [cnts_len]; simp [ti82]; omega)]
 show some (Res.tok (some k) fun j => .slice (cnts cs ++ cnts [c]) (cs.length + 1) (.tok j)) = _
 rw [cnts_app]
theorem moreL_frz (H : List (Option Blk)) (l : LLine) (c : Cnt) (n : Nat) (hn : n = l.counts.length + 1) (t : Tail) : Frz H (.agg [sl l.gives, .int .i64 l.least, .int .i64 l.most, .int .i64 l.taps, .slice (cnts (l.counts ++ [c])) n t]) (lineA (moreL l c)) := by
 refine .agg _ _ rfl fun j x y hx hy => ?_
 have e : (l.counts ++ [c]).length = n := by rw [hn]; simp
 match j, hx, hy with
 | 0, hx, hy => simp at hx; cases hy; subst hx; exact .same _
 | 1, hx, hy => simp at hx; cases hy; subst hx; exact .same _
 | 2, hx, hy => simp at hx; cases hy; subst hx; exact .same _
 | 3, hx, hy => simp at hx; cases hy; subst hx; exact .same _
 | 4, hx, hy =>
  simp at hx; subst hx
  have : y = .slice (cnts (l.counts ++ [c])) (l.counts ++ [c]).length .unk := by cases hy; rfl
  rw [this, e]; exact .unk _ _ _
 | j + 5, hx, hy => simp at hx
theorem sr_pure' {K : AV → St → Prop} {h : Hold K} {v : AV} {S : St} (hk : K v S) : sr K h (some (.pure v)) S := by
 rw [sr_pure]; exact hk
theorem Added_pc (l : LLine) (hc : l.counts.length ≤ 1000) (p read off : Int) (hr : 0 ≤ read ∧ read ≤ 400) (ho : 0 ≤ off ∧ off ≤ 400) : PC Tryz.prog 42 [lineA l, .int .i64 p, .int .i64 read, .int .i64 off] (.pure (lineA (addedL l p read off))) := by
 refine PC.of_frz (AC.run (E_ok _) mix Tryz.func42 m42 rfl rfl rfl (Nat.le_of_ble_eq_true rfl) ?_) (by simp [bndL, AV.bnd]) (by simp [bndL, AV.bnd])
 have w1 : IntKind.i64.wrap (read - off) = read - off := wrap64 (by omega)
 have w2 : IntKind.i64.wrap (read + off) = read + off := wrap64 (by omega)
 unfold addedL
 simp only [go_sem, boxA, put_eq, builtinA, reduceEqDiff, Nat.reduceBEq, reduceAdd, reduceIte, reduceCtorEq, reduceLeDiff]
 rcases Nat.eq_zero_or_pos l.counts.length with h0 | h0
 ·have hn : l.counts = [] := List.length_eq_zero_iff.1 h0
  have e1 : ∀ S, appendA T S 23 .nilS (.slice (cnts l.counts) l.counts.length .unk) = some (.pure .nilS) := fun S => by rw [hn]; rfl
  have e2 : ∀ S (c : Cnt), appendA T S 23 .nilS (.slice [.int .i64 c.point, .int .i64 c.low, .int .i64 c.high] 1 .exact) = some (.tok none fun j => .slice [.int .i64 c.point, .int .i64 c.low, .int .i64 c.high] 1 (.tok j)) := fun S c => rfl
  have e2' := fun S => e2 S ⟨p, susLo read off, susHi read off⟩
  unfold susLo susHi at e2'
  simp only at e2'
  rw [e1]
  refine sr_pure' ?_
  simp only [go_sem, put_eq, builtinA, w1, w2, minsA, maxsA, e2', Tryz.f42, reduceEqDiff, Nat.reduceBEq, reduceAdd, reduceIte, reduceCtorEq, reduceLeDiff]
  refine ⟨_, rfl, ?_⟩
  have hh := fun H => moreL_frz H l ⟨p, susLo read off, susHi read off⟩ 1 (by rw [hn]; rfl) (.tok 0)
  rw [show l.counts ++ [⟨p, susLo read off, susHi read off⟩] = [⟨p, susLo read off, susHi read off⟩] by rw [hn]; rfl] at hh
  exact hh _
 ·have e2 : ∀ S k, appendA T S 23 (.slice (cnts l.counts) l.counts.length (.tok k)) (.slice [.int .i64 p, .int .i64 (susLo read off), .int .i64 (susHi read off)] 1 .exact) = some (.tok (some k) fun j => .slice (cnts (l.counts ++ [⟨p, susLo read off, susHi read off⟩])) (l.counts.length + 1) (.tok j)) := fun S k => app_tok23 (c := ⟨p, susLo read off, susHi read off⟩) hc
  unfold susLo susHi at e2
  rw [app_nil23 h0 hc]
  simp only [go_sem, put_eq, builtinA, w1, w2, minsA, maxsA, e2, Tryz.f42, reduceEqDiff, Nat.reduceBEq, reduceAdd, reduceIte, reduceCtorEq, reduceLeDiff]
  exact ⟨List.mem_cons_self, _, rfl, moreL_frz _ l _ _ rfl _⟩
end Go.Av.Fx
end
section
namespace Go.Av.Fx
open Go Go.Av Go.Av.Tb Go.Proofs
theorem poss_added {l : LLine} (h : Ln l) (hc : l.counts.length < 8) {p r off : Int} (hp : 0 ≤ p ∧ p ≤ l.gives.length) (hr : 0 ≤ r ∧ r ≤ 400) (ho : 0 ≤ off) : PC Tryz.prog 41 [lineA (addedL l p r off)] (.pure (.tuple [.bool (possB (addedL l p r off)), .int .i64 0])) := by
 have hl := isLine_iff.2 (added_ln h hc hp hr ho)
 have hg : (addedL l p r off).gives = l.gives := rfl
 have hn : (addedL l p r off).counts.length = l.counts.length + 1 := by simp [addedL, moreL]
 have hpt := h.pts
 have := Possible_pc (addedL l p r off) ⟨by rw [hg]; show _ < _; omega, by rw [hn]; show _ < _; omega⟩
 rw [hl, Bool.true_and, if_pos rfl] at this
 exact this
theorem flows_no {l : LLine} (ok : okLine l) (h : isLineB l = true) (hp : possB l = false) {p : Nat} (hpt : p ≤ l.gives.length) : PC Tryz.prog 34 [lineA l, .int .i64 p] (.pure (.tuple [spA ⟨0, 0⟩, .int .i64 7])) := by
 have hk := Flows_pc l ok p
 have hin : inB p 0 l.gives.length = true := inB_iff.2 (by omega)
 have he : askE l (inB p 0 l.gives.length) = 7 := by simp [askE, h, hp, hin]
 unfold flowsA at hk
 rw [he, if_neg (by decide)] at hk
 exact hk
theorem lost_no {l : LLine} (ok : okLine l) (h : isLineB l = true) (hp : possB l = false) {a b : Nat} (hab : a ≤ b) (hb : b ≤ l.gives.length) : PC Tryz.prog 35 [lineA l, .int .i64 a, .int .i64 b] (.pure (.tuple [spA ⟨0, 0⟩, .int .i64 7])) := by
 have hk := Lost_pc l ok a b
 have hf : fineLost l a b = true := by
  unfold fineLost
  rw [inB_iff.2 (by omega), inB_iff.2 (by omega), decide_eq_true (by omega)]; rfl
 have he : askE l (fineLost l a b) = 7 := by simp [askE, h, hp, hf]
 unfold lostA at hk
 rw [he, if_neg (by decide)] at hk
 exact hk
set_option maxHeartbeats 8000000 in
theorem LeakEnds_pc (l : LLine) (ok : okLine l) (a c b : Int) : PC Tryz.prog 6 [lineA l, .int .i64 a, .int .i64 c, .int .i64 b] (.pure (.bool true)) := by
 refine PC.of_empty (AC.run (E_ok _) mix Tryz.func6 m6 rfl rfl rfl (Nat.le_of_ble_eq_true rfl) ?_) (by simp [bndL, AV.bnd]) rfl
 simp only [go_sem, boxA, reduceEqDiff, Nat.reduceBEq, reduceAdd, reduceIte, reduceCtorEq, reduceLeDiff]
 refine cp n19 (short_pc l) (SubL.refl _) ?_
 cases hsh : (decide ((l.gives.length : Int) ≤ 7) && decide ((l.counts.length : Int) ≤ 10))
 ·simp only [go_sem, un_not, Bool.not_false, reduceEqDiff, Nat.reduceBEq, reduceAdd, reduceIte, reduceCtorEq, reduceLeDiff]
  refine cp n20 known_pc (SubL.refl _) ?_
  simp only [go_sem, Tryz.f6, reduceEqDiff, Nat.reduceBEq, reduceAdd, reduceIte, reduceCtorEq, reduceLeDiff]
 simp only [go_sem, un_not, Bool.not_true, reduceEqDiff, Nat.reduceBEq, reduceAdd, reduceIte, reduceCtorEq, reduceLeDiff]
 refine cp n28 (rLine_pc l ok) (SubL.refl _) ?_
 cases h : isLineB l
 ·simp only [go_sem, un_not, Bool.not_false, reduceEqDiff, Nat.reduceBEq, reduceAdd, reduceIte, reduceCtorEq, reduceLeDiff]
  refine cp n20 known_pc (SubL.refl _) ?_
  simp only [go_sem, Tryz.f6, reduceEqDiff, Nat.reduceBEq, reduceAdd, reduceIte, reduceCtorEq, reduceLeDiff]
 simp only [go_sem, un_not, Bool.not_true, reduceEqDiff, Nat.reduceBEq, reduceAdd, reduceIte, reduceCtorEq, reduceLeDiff]
 refine cp n37 (rPoint_pc l a) (SubL.refl _) ?_
 cases ha : inB a 0 l.gives.length
 ·simp only [go_sem, un_not, Bool.not_false, reduceEqDiff, Nat.reduceBEq, reduceAdd, reduceIte, reduceCtorEq, reduceLeDiff]
  refine cp n20 known_pc (SubL.refl _) ?_
  simp only [go_sem, Tryz.f6, reduceEqDiff, Nat.reduceBEq, reduceAdd, reduceIte, reduceCtorEq, reduceLeDiff]
 simp only [go_sem, un_not, Bool.not_true, reduceEqDiff, Nat.reduceBEq, reduceAdd, reduceIte, reduceCtorEq, reduceLeDiff]
 refine cp n37 (rPoint_pc l b) (SubL.refl _) ?_
 cases hb : inB b 0 l.gives.length
 ·simp only [go_sem, un_not, Bool.not_false, reduceEqDiff, Nat.reduceBEq, reduceAdd, reduceIte, reduceCtorEq, reduceLeDiff]
  refine cp n20 known_pc (SubL.refl _) ?_
  simp only [go_sem, Tryz.f6, reduceEqDiff, Nat.reduceBEq, reduceAdd, reduceIte, reduceCtorEq, reduceLeDiff]
 by_cases hac : a > c
 ·simp only [go_sem, un_not, Bool.not_true, hac, decide_true, reduceEqDiff, Nat.reduceBEq, reduceAdd, reduceIte, reduceCtorEq, reduceLeDiff]
  refine cp n20 known_pc (SubL.refl _) ?_
  simp only [go_sem, Tryz.f6, reduceEqDiff, Nat.reduceBEq, reduceAdd, reduceIte, reduceCtorEq, reduceLeDiff]
 by_cases hcb : c > b
 ·simp only [go_sem, un_not, Bool.not_true, hac, hcb, decide_false, decide_true, reduceEqDiff, Nat.reduceBEq, reduceAdd, reduceIte, reduceCtorEq, reduceLeDiff]
  refine cp n20 known_pc (SubL.refl _) ?_
  simp only [go_sem, Tryz.f6, reduceEqDiff, Nat.reduceBEq, reduceAdd, reduceIte, reduceCtorEq, reduceLeDiff]
 by_cases h8 : (l.counts.length : Int) ≥ 8
 ·simp only [go_sem, un_not, Bool.not_true, hac, hcb, decide_false, builtinA, h8, decide_true, reduceEqDiff, Nat.reduceBEq, reduceAdd, reduceIte, reduceCtorEq, reduceLeDiff]
  refine cp n20 known_pc (SubL.refl _) ?_
  simp only [go_sem, Tryz.f6, reduceEqDiff, Nat.reduceBEq, reduceAdd, reduceIte, reduceCtorEq, reduceLeDiff]
 simp only [go_sem, un_not, Bool.not_true, hac, hcb, decide_false, builtinA, h8, reduceEqDiff, Nat.reduceBEq, reduceAdd, reduceIte, reduceCtorEq, reduceLeDiff]
 have hln := isLine_iff.1 h
 have hw := hln.lw
 have hpts := hln.pts
 have hpa := inB_iff.1 ha
 have hpb := inB_iff.1 hb
 obtain ⟨x, rfl⟩ : ∃ x : Nat, a = x := ⟨a.toNat, by omega⟩
 obtain ⟨y, rfl⟩ : ∃ y : Nat, b = y := ⟨b.toNat, by omega⟩
 obtain ⟨z, rfl⟩ : ∃ z : Nat, c = z := ⟨c.toNat, by omega⟩
 have y0 : ¬ ((0 : Int) ≠ 0) := by decide
 cases hp : possB l
 ·have y7 : ¬ ((7 : Int) ≠ 7) := by decide
  have y70 : ((7 : Int) ≠ 0) := by decide
  have d70 : decide ((7 : Int) ≠ 0) = true := rfl
  refine cp n34 (flows_no ok h hp (by omega : z ≤ _)) (SubL.refl _) ?_
  simp only [go_sem, extractA, put_eq, reduceEqDiff, Nat.reduceBEq, reduceAdd, reduceIte, reduceCtorEq, reduceLeDiff]
  refine cp n35 (lost_no ok h hp (by omega : x ≤ y) (by omega)) (SubL.refl _) ?_
  simp only [go_sem, extractA, put_eq, reduceEqDiff, Nat.reduceBEq, reduceAdd, reduceIte, reduceCtorEq, reduceLeDiff]
  refine cp n35 (lost_no ok h hp (by omega : x ≤ z) (by omega)) (SubL.refl _) ?_
  simp only [go_sem, extractA, put_eq, reduceEqDiff, Nat.reduceBEq, reduceAdd, reduceIte, reduceCtorEq, reduceLeDiff]
  refine cp n35 (lost_no ok h hp (by omega : z ≤ y) (by omega)) (SubL.refl _) ?_
  simp only [go_sem, extractA, put_eq, y7, d70, decide_false, reduceEqDiff, Nat.reduceBEq, reduceAdd, reduceIte, reduceCtorEq, reduceLeDiff]
  refine cp n20 known_pc (SubL.refl _) ?_
  simp only [go_sem, Tryz.f6, reduceEqDiff, Nat.reduceBEq, reduceAdd, reduceIte, reduceCtorEq, reduceLeDiff]
 have e1 := ends_flow hw hp (by omega : z ≤ l.gives.length)
 have e2 := ends_poss hw (by omega) hp (p := (z : Int)) (by omega)
 rw [Int.toNat_natCast] at e2
 have e3 := ends_small hw hp (by omega : x ≤ y) (by omega)
 have e4 := ends_small hw hp (by omega : x ≤ z) (by omega)
 have e5 := ends_small hw hp (by omega : z ≤ y) (by omega)
 have e6 := ends_sum hw hp (by omega : x ≤ z) (by omega : z ≤ y) (by omega)
 have q1 := flows_ok ok h hp (by omega : z ≤ l.gives.length)
 have q2 := lost_ok ok h hp (by omega : x ≤ y) (by omega)
 have q3 := lost_ok ok h hp (by omega : x ≤ z) (by omega)
 have q4 := lost_ok ok h hp (by omega : z ≤ y) (by omega)
 generalize flowsS l z = s1 at e1 e2 q1
 generalize lostAll l x y = s2 at e3 e6 q2
 generalize lostAll l x z = s3 at e4 e6 q3
 generalize lostAll l z y = s4 at e5 e6 q4
 obtain ⟨a1, b1⟩ := s1
 obtain ⟨a2, b2⟩ := s2
 obtain ⟨a3, b3⟩ := s3
 obtain ⟨a4, b4⟩ := s4
 simp only at e1 e2 e3 e4 e5 e6
 have sm : ∀ u v : Int, 0 ≤ u ∧ u ≤ v ∧ v ≤ 400 → PC Tryz.prog 40 [spA ⟨u, v⟩] (.pure (.bool true)) := fun u v hh => by
  have := small_pc ⟨u, v⟩
  rw [decide_eq_true (p := u ≥ 0) hh.1, decide_eq_true (p := u ≤ v) hh.2.1, decide_eq_true (p := v ≤ 400) hh.2.2] at this
  exact this
 refine cp n34 q1 (SubL.refl _) ?_
 simp only [go_sem, extractA, put_eq, reduceEqDiff, Nat.reduceBEq, reduceAdd, reduceIte, reduceCtorEq, reduceLeDiff]
 refine cp n35 q2 (SubL.refl _) ?_
 simp only [go_sem, extractA, put_eq, reduceEqDiff, Nat.reduceBEq, reduceAdd, reduceIte, reduceCtorEq, reduceLeDiff]
 refine cp n35 q3 (SubL.refl _) ?_
 simp only [go_sem, extractA, put_eq, reduceEqDiff, Nat.reduceBEq, reduceAdd, reduceIte, reduceCtorEq, reduceLeDiff]
 refine cp n35 q4 (SubL.refl _) ?_
 have f1 : ¬ (a1 < 0) := by omega
 have f2 : ¬ (b1 > 400) := by omega
 have f3 : ¬ (a1 > b1) := by omega
 simp only [go_sem, extractA, put_eq, y0, f1, f2, f3, decide_false, reduceEqDiff, Nat.reduceBEq, reduceAdd, reduceIte, reduceCtorEq, reduceLeDiff]
 refine cp n40 (sm a2 b2 e3) (SubL.refl _) ?_
 simp only [go_sem, un_not, Bool.not_true, reduceEqDiff, Nat.reduceBEq, reduceAdd, reduceIte, reduceCtorEq, reduceLeDiff]
 refine cp n40 (sm a3 b3 e4) (SubL.refl _) ?_
 simp only [go_sem, un_not, Bool.not_true, reduceEqDiff, Nat.reduceBEq, reduceAdd, reduceIte, reduceCtorEq, reduceLeDiff]
 refine cp n40 (sm a4 b4 e5) (SubL.refl _) ?_
 have w1 : IntKind.i64.wrap (a3 + a4) = a3 + a4 := wrap64 (by omega)
 have w2 : IntKind.i64.wrap (b3 + b4) = b3 + b4 := wrap64 (by omega)
 have f4 : ¬ (a2 < a3 + a4) := by omega
 have f5 : ¬ (b2 > b3 + b4) := by omega
 have f6 : ¬ (a2 > b3 + b4) := by omega
 have f7 : ¬ (b2 < a3 + a4) := by omega
 simp only [go_sem, un_not, Bool.not_true, w1, w2, f4, f5, f6, f7, decide_false, reduceEqDiff, Nat.reduceBEq, reduceAdd, reduceIte, reduceCtorEq, reduceLeDiff]
 have add : ∀ r : Int, 0 ≤ r ∧ r ≤ 400 → PC Tryz.prog 42 [lineA l, .int .i64 z, .int .i64 r, .int .i64 0] (.pure (lineA (addedL l z r 0))) := fun r hr => Added_pc l (by omega) z r 0 hr (by omega)
 have pos : ∀ r : Int, 0 ≤ r ∧ r ≤ 400 → PC Tryz.prog 41 [lineA (addedL l z r 0)] (.pure (.tuple [.bool (possB (addedL l z r 0)), .int .i64 0])) := fun r hr => poss_added hln (by omega) (by omega) hr (by omega)
 obtain ⟨p1, p2, p3, p4⟩ := e2
 have o1 := pos a1 (by omega)
 have o2 := pos b1 (by omega)
 rw [p1] at o1
 rw [p2] at o2
 refine cp n42 (add a1 (by omega)) (SubL.refl _) ?_
 simp only [go_sem, reduceEqDiff, Nat.reduceBEq, reduceAdd, reduceIte, reduceCtorEq, reduceLeDiff]
 refine cp n41 o1 (SubL.refl _) ?_
 simp only [go_sem, extractA, reduceEqDiff, Nat.reduceBEq, reduceAdd, reduceIte, reduceCtorEq, reduceLeDiff]
 refine cp n42 (add b1 (by omega)) (SubL.refl _) ?_
 simp only [go_sem, reduceEqDiff, Nat.reduceBEq, reduceAdd, reduceIte, reduceCtorEq, reduceLeDiff]
 refine cp n41 o2 (SubL.refl _) ?_
 have last : ∀ hh : b1 < 400, PC Tryz.prog 41 [lineA (addedL l z (b1 + 1) 0)] (.pure (.tuple [.bool false, .int .i64 0])) := fun hh => by
  have := pos (b1 + 1) (by omega); rw [p4 hh] at this; exact this
 have w3 : IntKind.i64.wrap (b1 + 1) = b1 + 1 := wrap64 (by omega)
 have w4 : IntKind.i64.wrap (a1 - 1) = a1 - 1 := wrap64 (by omega)
 by_cases g1 : a1 > 0
 ·have o3 := pos (a1 - 1) (by omega)
  rw [p3 g1] at o3
  simp only [go_sem, extractA, y0, decide_false, un_not, Bool.not_true, g1, decide_true, w4, reduceEqDiff, Nat.reduceBEq, reduceAdd, reduceIte, reduceCtorEq, reduceLeDiff]
  refine cp n42 (add (a1 - 1) (by omega)) (SubL.refl _) ?_
  simp only [go_sem, reduceEqDiff, Nat.reduceBEq, reduceAdd, reduceIte, reduceCtorEq, reduceLeDiff]
  refine cp n41 o3 (SubL.refl _) ?_
  by_cases g2 : b1 < 400
  ·simp only [go_sem, extractA, y0, decide_false, g2, decide_true, w3, reduceEqDiff, Nat.reduceBEq, reduceAdd, reduceIte, reduceCtorEq, reduceLeDiff]
   refine cp n42 (add (b1 + 1) (by omega)) (SubL.refl _) ?_
   simp only [go_sem, reduceEqDiff, Nat.reduceBEq, reduceAdd, reduceIte, reduceCtorEq, reduceLeDiff]
   refine cp n41 (last g2) (SubL.refl _) ?_
   simp only [go_sem, extractA, y0, decide_false, reduceEqDiff, Nat.reduceBEq, reduceAdd, reduceIte, reduceCtorEq, reduceLeDiff]
   refine cp n20 known_pc (SubL.refl _) ?_
   simp only [go_sem, Tryz.f6, reduceEqDiff, Nat.reduceBEq, reduceAdd, reduceIte, reduceCtorEq, reduceLeDiff]
  ·simp only [go_sem, extractA, y0, decide_false, g2, reduceEqDiff, Nat.reduceBEq, reduceAdd, reduceIte, reduceCtorEq, reduceLeDiff]
   refine cp n20 known_pc (SubL.refl _) ?_
   simp only [go_sem, Tryz.f6, reduceEqDiff, Nat.reduceBEq, reduceAdd, reduceIte, reduceCtorEq, reduceLeDiff]
 ·by_cases g2 : b1 < 400
  ·simp only [go_sem, extractA, y0, decide_false, un_not, Bool.not_true, g1, g2, decide_true, w3, reduceEqDiff, Nat.reduceBEq, reduceAdd, reduceIte, reduceCtorEq, reduceLeDiff]
   refine cp n42 (add (b1 + 1) (by omega)) (SubL.refl _) ?_
   simp only [go_sem, reduceEqDiff, Nat.reduceBEq, reduceAdd, reduceIte, reduceCtorEq, reduceLeDiff]
   refine cp n41 (last g2) (SubL.refl _) ?_
   simp only [go_sem, extractA, y0, decide_false, reduceEqDiff, Nat.reduceBEq, reduceAdd, reduceIte, reduceCtorEq, reduceLeDiff]
   refine cp n20 known_pc (SubL.refl _) ?_
   simp only [go_sem, Tryz.f6, reduceEqDiff, Nat.reduceBEq, reduceAdd, reduceIte, reduceCtorEq, reduceLeDiff]
  ·simp only [go_sem, extractA, y0, decide_false, un_not, Bool.not_true, g1, g2, reduceEqDiff, Nat.reduceBEq, reduceAdd, reduceIte, reduceCtorEq, reduceLeDiff]
   refine cp n20 known_pc (SubL.refl _) ?_
   simp only [go_sem, Tryz.f6, reduceEqDiff, Nat.reduceBEq, reduceAdd, reduceIte, reduceCtorEq, reduceLeDiff]
end Go.Av.Fx
end
