/- Part 26 of the proof. -/
import Derived.Test.YtlagjjpbknpdkaaGreatDoorLb25
import Derived.Test.YtlagjjpbknpdkaaGreatDoorLb20
import Derived.Test.YtlagjjpbknpdkaaGreatDoorLb23
set_option linter.all false
set_option linter.unusedVariables false
set_option linter.unusedSimpArgs false
set_option linter.unusedSectionVars false
section
namespace Go.Av.Fx
open Go Go.Av Go.Av.Tb Go.Proofs
theorem Sub.map {α : Type} (f g : α → AV) (h : ∀ a, Sub (f a) (g a)) (L : List α) (n : Nat) (t : Tail) : Sub (.slice (L.map f) n t) (.slice (L.map g) n .unk) := by
  intro c x hx
  generalize hl : L.map f = l at hx
  cases hx with
  | slice _ _ _ b off cap vs hc hk hr he ht =>
    subst hl
    refine .slice _ n .unk b off cap vs hc (fun j hj => hk j (by simpa using hj)) (fun j y hy => ?_) (fun e => by cases e) (fun k e => by cases e)
    rw [List.getElem?_map] at hy
    cases e : L[j]? with
    | none => rw [e] at hy; cases hy
    | some a =>
      rw [e] at hy; cases hy
      exact h a c _ (hr j (f a) (by rw [List.getElem?_map, e]; rfl))
  | sliceNil _ ht =>
    have : L = [] := by simpa using hl
    subst this
    exact .sliceNil .unk (fun k e => by cases e)
theorem askM : askE lineM true = 0 := by simp [askE, kM_line, kM_poss]
theorem okM : okLine lineM := ⟨by decide, by decide⟩
theorem okN : okLine lineN := ⟨by decide, by decide⟩
theorem q1 : PC Tryz.prog 41 [lineA lineN] (.pure (.tuple [.bool false, .int .i64 0])) := by
  have := Possible_pc lineN okN
  rw [kN_line, kN_poss] at this; exact this
theorem q2 : PC Tryz.prog 22 [lineA lineM] (.pure (.tuple [sll [[0], [1], [2]], .int .i64 0])) := by
  have := Sets_pc lineM okM
  unfold setsA at this
  rw [if_pos askM, kM_sets] at this; exact this
theorem q3 : PC Tryz.prog 21 [lineA lineM] (.pure (.tuple [sl [2, 2, 2], .int .i64 0])) := by
  have := Known_pc lineM okM
  unfold knownA at this
  rw [if_pos askM, show lineM.gives.length = 3 from rfl, kM_words] at this; exact this
theorem q4 : PC Tryz.prog 34 [lineA lineM, .int .i64 1] (.pure (.tuple [spA ⟨78, 94⟩, .int .i64 0])) := by
  have := Flows_pc lineM okM 1
  unfold flowsA at this
  rw [show inB 1 0 lineM.gives.length = true from rfl, if_pos askM, show Int.toNat 1 = 1 from rfl, kM_flows] at this; exact this
theorem q5 : PC Tryz.prog 35 [lineA lineM, .int .i64 0, .int .i64 3] (.pure (.tuple [spA ⟨8, 15⟩, .int .i64 0])) := by
  have := Lost_pc lineM okM 0 3
  unfold lostA at this
  rw [show fineLost lineM 0 3 = true from rfl, if_pos askM, show Int.toNat 0 = 0 from rfl, show Int.toNat 3 = 3 from rfl, kM_lost] at this; exact this
theorem q6 : PC Tryz.prog 30 [lineA lineM, sl [1]] (.pure (.tuple [spA ⟨8, 15⟩, .int .i64 0])) := by
  have := Explains_pc lineM okM [1] (by decide)
  unfold explA at this
  rw [if_pos ⟨kM_line, by decide⟩, if_pos (show isSetB lineM [1] = true by decide +kernel)] at this
  have h := kM_expl
  cases hx : explM lineM [1] with
  | none => rw [hx] at h; cases h
  | some W =>
    rw [hx] at h this
    have h : lostS lineM W 0 3 = ⟨8, 15⟩ := by simpa using h
    simp only [show lineM.gives.length = 3 from rfl, h] at this
    exact this
theorem q7 : PC Tryz.prog 43 [lineA lineM, .int .i64 2] (.pure (.tuple [.int .i64 1, .int .i64 2, .int .i64 0])) := by
  have := Next_pc lineM okM 2
  unfold nextA at this
  rw [show inB 2 0 20 = true from rfl, if_pos askM, kM_next] at this; exact this
theorem q8 : PC Tryz.prog 47 [lineA lineM, sl [1, 2], .int .i64 2] (.pure (.tuple [.bool true, .int .i64 0])) := by
  have := Tells_pc lineM okM [1, 2] (by decide) 2
  unfold tellsA at this
  rw [show fineTells lineM [1, 2] 2 = true by decide +kernel, if_pos askM, kM_tells] at this; exact this
theorem q9 : PC Tryz.prog 48 [lineA lineM, .int .i64 2] (.pure (.tuple [sl [1, 2], .int .i64 0])) := by
  have := Plan_pc lineM okM 2
  unfold planA at this
  rw [show inB 2 0 20 = true from rfl, if_pos askM, kM_plan] at this; exact this
theorem q10 : PC Tryz.prog 53 [lineA lineN] (.pure (.tuple [.int .i64 0, .int .i64 2, .int .i64 0])) := by
  have := Clash_pc lineN okN
  unfold clashA at this
  rw [if_pos kN_line, kN_clash] at this; exact this
theorem q11 : PC Tryz.prog 54 [lineA lineN] (.pure (.tuple [sl [0], .int .i64 0])) := by
  have := Wrong_pc lineN okN
  unfold wrongA at this
  rw [if_pos kN_line, kN_wrong] at this; exact this
theorem q12 : PC Tryz.prog 61 [.str exT] (.pure (.tuple [lineA lineT, .int .i64 0])) := by
  have := Read_pc exT (by decide)
  unfold readA at this
  rw [if_pos (by decide), kT] at this
  simp only [if_pos kT_line] at this
  exact this
theorem q13 : PC Tryz.prog 62 [lineA lineT] (.pure (.str exT)) := by
  have := rPrint_pc lineT (isLine_iff.1 kT_line).plain
  rw [kT_text] at this; exact this
@[go_sem] theorem ne42a : binA T .neq 42 (.agg [.int .i64 78, .int .i64 94]) (.agg [.int .i64 78, .int .i64 94]) = some (.bool false) := rfl
@[go_sem] theorem ne42b : binA T .neq 42 (.agg [.int .i64 8, .int .i64 15]) (.agg [.int .i64 8, .int .i64 15]) = some (.bool false) := rfl
set_option maxRecDepth 100000 in
theorem known_pc : PC Tryz.prog 20 [] (.pure (.bool true)) := by
  refine PC.of_empty (AC.run (E_ok _) mix Tryz.func20 m20 rfl rfl rfl (Nat.le_of_ble_eq_true rfl) ?_) rfl rfl
  simp only [go_sem, Nat.reduceEqDiff, Nat.reduceBEq, Nat.reduceAdd, reduceIte, reduceCtorEq, Nat.reduceLeDiff]
  refine cp n73 N_pc (SubL.refl _) ?_
  simp only [go_sem, Nat.reduceEqDiff, Nat.reduceBEq, Nat.reduceAdd, reduceIte, reduceCtorEq, Nat.reduceLeDiff]
  refine cp n41 q1 (SubL.refl _) ?_
  simp only [go_sem, extractA, Nat.reduceEqDiff, Nat.reduceBEq, Nat.reduceAdd, reduceIte, reduceCtorEq, Nat.reduceLeDiff]
  refine cp n74 M_pc (SubL.refl _) ?_
  simp only [go_sem, Nat.reduceEqDiff, Nat.reduceBEq, Nat.reduceAdd, reduceIte, reduceCtorEq, Nat.reduceLeDiff]
  refine cp n22 q2 (SubL.refl _) ?_
  simp only [go_sem, extractA, Nat.reduceEqDiff, Nat.reduceBEq, Nat.reduceAdd, reduceIte, reduceCtorEq, Nat.reduceLeDiff]
  refine cp n74 M_pc (SubL.refl _) ?_
  simp only [go_sem, Nat.reduceEqDiff, Nat.reduceBEq, Nat.reduceAdd, reduceIte, reduceCtorEq, Nat.reduceLeDiff]
  refine cp n21 q3 (SubL.refl _) ?_
  simp only [go_sem, extractA, Nat.reduceEqDiff, Nat.reduceBEq, Nat.reduceAdd, reduceIte, reduceCtorEq, Nat.reduceLeDiff]
  refine cp n74 M_pc (SubL.refl _) ?_
  simp only [go_sem, Nat.reduceEqDiff, Nat.reduceBEq, Nat.reduceAdd, reduceIte, reduceCtorEq, Nat.reduceLeDiff]
  refine cp n34 q4 (SubL.refl _) ?_
  simp only [go_sem, extractA, put_eq, Nat.reduceEqDiff, Nat.reduceBEq, Nat.reduceAdd, reduceIte, reduceCtorEq, Nat.reduceLeDiff]
  refine cp n74 M_pc (SubL.refl _) ?_
  simp only [go_sem, Nat.reduceEqDiff, Nat.reduceBEq, Nat.reduceAdd, reduceIte, reduceCtorEq, Nat.reduceLeDiff]
  refine cp n35 q5 (SubL.refl _) ?_
  simp only [go_sem, extractA, put_eq, Nat.reduceEqDiff, Nat.reduceBEq, Nat.reduceAdd, reduceIte, reduceCtorEq, Nat.reduceLeDiff]
  refine cp n74 M_pc (SubL.refl _) ?_
  simp only [go_sem, Nat.reduceEqDiff, Nat.reduceBEq, Nat.reduceAdd, reduceIte, reduceCtorEq, Nat.reduceLeDiff]
  refine cp n30 q6 (SubL.cons (Sub.refl _) (SubL.cons (Sub.unk _ _ _) (SubL.refl _))) ?_
  simp only [go_sem, extractA, put_eq, Nat.reduceEqDiff, Nat.reduceBEq, Nat.reduceAdd, reduceIte, reduceCtorEq, Nat.reduceLeDiff]
  refine cp n74 M_pc (SubL.refl _) ?_
  simp only [go_sem, Nat.reduceEqDiff, Nat.reduceBEq, Nat.reduceAdd, reduceIte, reduceCtorEq, Nat.reduceLeDiff]
  refine cp n43 q7 (SubL.refl _) ?_
  simp only [go_sem, extractA, Nat.reduceEqDiff, Nat.reduceBEq, Nat.reduceAdd, reduceIte, reduceCtorEq, Nat.reduceLeDiff]
  refine cp n74 M_pc (SubL.refl _) ?_
  simp only [go_sem, Nat.reduceEqDiff, Nat.reduceBEq, Nat.reduceAdd, reduceIte, reduceCtorEq, Nat.reduceLeDiff]
  refine cp n47 q8 (SubL.cons (Sub.refl _) (SubL.cons (Sub.unk _ _ _) (SubL.refl _))) ?_
  simp only [go_sem, extractA, Nat.reduceEqDiff, Nat.reduceBEq, Nat.reduceAdd, reduceIte, reduceCtorEq, Nat.reduceLeDiff]
  refine cp n74 M_pc (SubL.refl _) ?_
  simp only [go_sem, Nat.reduceEqDiff, Nat.reduceBEq, Nat.reduceAdd, reduceIte, reduceCtorEq, Nat.reduceLeDiff]
  refine cp n48 q9 (SubL.refl _) ?_
  simp only [go_sem, extractA, Nat.reduceEqDiff, Nat.reduceBEq, Nat.reduceAdd, reduceIte, reduceCtorEq, Nat.reduceLeDiff]
  refine cp n73 N_pc (SubL.refl _) ?_
  simp only [go_sem, Nat.reduceEqDiff, Nat.reduceBEq, Nat.reduceAdd, reduceIte, reduceCtorEq, Nat.reduceLeDiff]
  refine cp n53 q10 (SubL.refl _) ?_
  simp only [go_sem, extractA, Nat.reduceEqDiff, Nat.reduceBEq, Nat.reduceAdd, reduceIte, reduceCtorEq, Nat.reduceLeDiff]
  refine cp n73 N_pc (SubL.refl _) ?_
  simp only [go_sem, Nat.reduceEqDiff, Nat.reduceBEq, Nat.reduceAdd, reduceIte, reduceCtorEq, Nat.reduceLeDiff]
  refine cp n54 q11 (SubL.refl _) ?_
  simp only [go_sem, extractA, Nat.reduceEqDiff, Nat.reduceBEq, Nat.reduceAdd, reduceIte, reduceCtorEq, Nat.reduceLeDiff]
  refine cp n61 q12 (SubL.refl _) ?_
  have z0 : ¬ ((0 : Int) ≠ 0) := by decide
  simp only [go_sem, extractA, put_eq, z0, decide_false, Nat.reduceEqDiff, Nat.reduceBEq, Nat.reduceAdd, reduceIte, reduceCtorEq, Nat.reduceLeDiff]
  refine cp n26 (SameSets_pc [[0], [1], [2]] [[0], [1], [2]] (by decide) (by decide) (by decide) (by decide)) (SubL.cons (Sub.refl _) (SubL.cons (Sub.map (fun s => .slice (ints s) s.length .exact) sl (fun s => Sub.unk _ _ _) [[0], [1], [2]] 3 .exact) (SubL.refl _))) ?_
  rw [decide_eq_true rfl]
  simp only [go_sem, un_not, Bool.not_true, Nat.reduceEqDiff, Nat.reduceBEq, Nat.reduceAdd, reduceIte, reduceCtorEq, Nat.reduceLeDiff]
  refine cp n24 (SameWords_pc [2, 2, 2] [2, 2, 2] (by decide) (by decide)) (SubL.cons (Sub.refl _) (SubL.cons (Sub.unk _ _ _) (SubL.refl _))) ?_
  rw [decide_eq_true rfl]
  have z1 : decide ((1 : Int) = 1) = true := rfl
  have z2 : decide ((2 : Int) = 2) = true := rfl
  have z3 : decide ((0 : Int) = 0) = true := rfl
  simp only [go_sem, un_not, Bool.not_true, put_eq, z1, z2, z3, decide_true, Nat.reduceEqDiff, Nat.reduceBEq, Nat.reduceAdd, reduceIte, reduceCtorEq, Nat.reduceLeDiff]
  refine cp n50 (Same_pc [1, 2] [1, 2] (by decide) (by decide)) (SubL.cons (Sub.refl _) (SubL.cons (Sub.unk _ _ _) (SubL.refl _))) ?_
  rw [decide_eq_true rfl]
  simp only [go_sem, un_not, Bool.not_true, put_eq, z1, z2, z3, decide_true, Nat.reduceEqDiff, Nat.reduceBEq, Nat.reduceAdd, reduceIte, reduceCtorEq, Nat.reduceLeDiff]
  refine cp n50 (Same_pc [0] [0] (by decide) (by decide)) (SubL.cons (Sub.refl _) (SubL.cons (Sub.unk _ _ _) (SubL.refl _))) ?_
  rw [decide_eq_true rfl]
  simp only [go_sem, un_not, Bool.not_true, put_eq, z1, z2, z3, decide_true, Nat.reduceEqDiff, Nat.reduceBEq, Nat.reduceAdd, reduceIte, reduceCtorEq, Nat.reduceLeDiff]
  refine cp n62 q13 (SubL.refl _) ?_
  have z4 : binA T .eql 9 (.str exT) (.str ⟨#[108, 105, 110, 101, 32, 49, 32, 49, 32, 48, 10, 115, 116, 114, 101, 116, 99, 104, 32, 48, 10, 101, 110, 100, 32, 48, 53, 49, 10]⟩) = some (.bool true) := (show binA T .eql 9 (.str exT) (.str exT) = some (.bool true) by rw [eqS, decide_eq_true rfl])
  simp only [go_sem, z4, Tryz.f20, Nat.reduceEqDiff, Nat.reduceBEq, Nat.reduceAdd, reduceIte, reduceCtorEq, Nat.reduceLeDiff]
end Go.Av.Fx
end
section
namespace Go.Av.Fx
open Go Go.Av Go.Proofs
open Go.Fw (Sq ent Bd Mat Tells Good)
def gsum (l : LLine) : Nat → Int
  | 0 => 0
  | p + 1 => gsum l p + l.gives.getD p 0
theorem gsum_bd {l : LLine} (h : Lw l) : ∀ p : Nat, 0 ≤ gsum l p ∧ gsum l p ≤ 60 * p
  | 0 => ⟨Int.le_refl _, Int.le_refl _⟩
  | p + 1 => by
    have h1 := gsum_bd h p
    have h2 := h.give p
    show 0 ≤ gsum l p + _ ∧ gsum l p + _ ≤ _
    omega
theorem sumW_eq {l : LLine} (h : Lw l) {a : Nat} : ∀ k : Nat, a + k ≤ l.gives.length → sumW ((l.gives.drop a).take k) = gsum l (a + k) - gsum l a
  | 0, hk => by simp [sumW]
  | k + 1, hk => by
    have hp := h.pts
    have ih := sumW_eq h (a := a) k (by omega)
    have hl : k < (l.gives.drop a).length := by rw [List.length_drop]; omega
    unfold sumW at ih ⊢
    rw [foldl_take _ _ _ _ hl, ih]
    have e : (l.gives.drop a)[k] = l.gives.getD (a + k) 0 := by
      have hlt : a + k < l.gives.length := by omega
      rw [List.getElem_drop, List.getD_eq_getElem?_getD, List.getElem?_eq_getElem hlt]; rfl
    have h1 := gsum_bd h (a + k)
    have h2 := gsum_bd h a
    have h3 := h.give (a + k)
    rw [e, wrap64 (by omega), show a + (k + 1) = a + k + 1 by omega]
    show _ = gsum l (a + k) + _ - gsum l a
    omega
structure Spn (P : (Nat → Int) → Prop) (g : (Nat → Int) → Int) (sp : Span) : Prop where
  bd : ∀ f, P f → sp.low ≤ g f ∧ g f ≤ sp.high
  lo : ∃ f, P f ∧ g f = sp.low
  hi : ∃ f, P f ∧ g f = sp.high
theorem Spn.imp {P Q : (Nat → Int) → Prop} {g : (Nat → Int) → Int} {a : Span} (h : Spn P g a) (e : ∀ f, P f ↔ Q f) : Spn Q g a := by
  obtain ⟨f1, p1, e1⟩ := h.lo
  obtain ⟨f2, p2, e2⟩ := h.hi
  exact ⟨fun f hf => h.bd f ((e f).2 hf), ⟨f1, (e _).1 p1, e1⟩, ⟨f2, (e _).1 p2, e2⟩⟩
theorem Spn.join {P Q : (Nat → Int) → Prop} {g : (Nat → Int) → Int} {a b : Span} (h : Spn P g a) (h' : Spn Q g b) : Spn (fun f => P f ∨ Q f) g (joinS a b) := by
  obtain ⟨f1, p1, e1⟩ := h.lo
  obtain ⟨f2, p2, e2⟩ := h.hi
  obtain ⟨f3, p3, e3⟩ := h'.lo
  obtain ⟨f4, p4, e4⟩ := h'.hi
  unfold joinS
  refine ⟨?_, ?_, ?_⟩
  · rintro f (hf | hf)
    · have := h.bd f hf
      constructor
      · show (if b.low < a.low then b.low else a.low) ≤ _; split <;> omega
      · show _ ≤ (if b.high > a.high then b.high else a.high); split <;> omega
    · have := h'.bd f hf
      constructor
      · show (if b.low < a.low then b.low else a.low) ≤ _; split <;> omega
      · show _ ≤ (if b.high > a.high then b.high else a.high); split <;> omega
  · by_cases c : b.low < a.low
    · exact ⟨f3, .inr p3, by show _ = if b.low < a.low then b.low else a.low; rw [if_pos c]; exact e3⟩
    · exact ⟨f1, .inl p1, by show _ = if b.low < a.low then b.low else a.low; rw [if_neg c]; exact e1⟩
  · by_cases c : b.high > a.high
    · exact ⟨f4, .inr p4, by show _ = if b.high > a.high then b.high else a.high; rw [if_pos c]; exact e4⟩
    · exact ⟨f2, .inl p2, by show _ = if b.high > a.high then b.high else a.high; rw [if_neg c]; exact e2⟩
theorem Spn.fold {α : Type} {P : α → (Nat → Int) → Prop} {g : (Nat → Int) → Int} {f : α → Span} : ∀ (L : List α) {Q : (Nat → Int) → Prop} {o : Span}, Spn Q g o → (∀ t ∈ L, Spn (P t) g (f t)) →
    Spn (fun x => Q x ∨ ∃ t, t ∈ L ∧ P t x) g (L.foldl (fun o t => joinS o (f t)) o)
  | [], Q, o, h, _ => h.imp fun x => ⟨.inl, fun hx => hx.elim id fun ⟨t, ht, _⟩ => by cases ht⟩
  | t :: L, Q, o, h, hL => by
    refine (Spn.fold L (h.join (hL t List.mem_cons_self)) fun t ht => hL t (List.mem_cons_of_mem _ ht)).imp fun x => ?_
    constructor
    · rintro ((h | h) | ⟨u, hu, h⟩)
      · exact .inl h
      · exact .inr ⟨t, List.mem_cons_self, h⟩
      · exact .inr ⟨u, List.mem_cons_of_mem _ hu, h⟩
    · rintro (h | ⟨u, hu, h⟩)
      · exact .inl (.inl h)
      · rcases List.mem_cons.1 hu with rfl | hu
        · exact .inl (.inr h)
        · exact .inr ⟨u, hu, h⟩
theorem span_eq {l : LLine} (h : Lw l) {s : List Int} {W : Mat} (hW : explM l s = some W) {a b : Nat} (ha : a < l.gives.length + 2) (hb : b < l.gives.length + 2) : spanM W a b = ⟨-ent W b a, ent W a b⟩ := by
  have := expl_bd h hW hb ha
  unfold spanM
  rw [w64_eq (by omega), Int.zero_sub]
theorem lost_eq {l : LLine} (h : Lw l) {s : List Int} {W : Mat} (hW : explM l s = some W) {a b : Nat} (hab : a ≤ b) (hb : b ≤ l.gives.length) : lostS l W a b = ⟨-ent W a b - (gsum l b - gsum l a), ent W b a - (gsum l b - gsum l a)⟩ := by
  have hp := h.pts
  have h1 := expl_bd h hW (a := a) (b := b) (by omega) (by omega)
  have h2 := expl_bd h hW (a := b) (b := a) (by omega) (by omega)
  have h3 := gsum_bd h a
  have h4 := gsum_bd h b
  have e := sumW_eq h (a := a) (b - a) (by omega)
  rw [show a + (b - a) = b by omega] at e
  unfold lostS
  rw [span_eq h hW (by omega) (by omega), e]
  simp only
  rw [w64_eq (by omega), w64_eq (by omega)]
def lossF (l : LLine) (a b : Nat) (f : Nat → Int) : Int := f a - f b - (gsum l b - gsum l a)
theorem lost_spn {l : LLine} (h : Lw l) {s : List Int} {W : Mat} (hW : explM l s = some W) {a b : Nat} (hab : a ≤ b) (hb : b ≤ l.gives.length) : Spn (Fl l s) (lossF l a b) (lostS l W a b) := by
  rw [lost_eq h hW hab hb]
  have h1 := expl_mx h hW (a := a) (b := b) (by omega) (by omega)
  have h2 := expl_mx h hW (a := b) (b := a) (by omega) (by omega)
  have e1 : ∀ f, ex l f a = f a := fun f => by unfold ex; rw [if_pos (by omega)]
  have e2 : ∀ f, ex l f b = f b := fun f => by unfold ex; rw [if_pos (by omega)]
  simp only [e1, e2] at h1 h2
  obtain ⟨f1, p1, q1⟩ := h1.2
  obtain ⟨f2, p2, q2⟩ := h2.2
  unfold lossF
  refine ⟨fun f hf => ?_, ⟨f1, p1, ?_⟩, ⟨f2, p2, ?_⟩⟩
  · have := h1.1 f hf; have := h2.1 f hf
    simp only at *; omega
  · simp only at *; omega
  · simp only at *; omega
theorem poss_len {l : LLine} : possB l = true ↔ 0 < (theftsL l).length := by
  unfold possB; rw [decide_eq_true_iff]
end Go.Av.Fx
end
section
namespace Go.Av.Fx
open Go Go.Av Go.Av.Tb Go.Proofs
def lexB : List Int → List Int → Bool
  | x :: a, y :: b => if x = y then lexB a b else decide (x < y)
  | _, _ => false
def beforeB (a b : List Int) : Bool := if a.length = b.length then lexB a b else decide (a.length < b.length)
theorem lexB_drop : ∀ (a b : List Int) (k : Nat), a.length = b.length → (∀ i (h1 : i < k) (h2 : i < a.length) (h3 : i < b.length), a[i] = b[i]) → lexB a b = lexB (a.drop k) (b.drop k)
  | a, b, 0, _, _ => rfl
  | [], [], k + 1, _, _ => rfl
  | x :: a, y :: b, k + 1, hl, h => by
    have h0 := h 0 (by omega) (by simp) (by simp)
    simp only [List.getElem_cons_zero] at h0
    subst h0
    simp only [lexB, if_true, List.drop_succ_cons]
    exact lexB_drop a b k (by simpa using hl) fun i h1 h2 h3 => by
      have := h (i + 1) (by omega) (by simpa using h2) (by simpa using h3)
      simpa using this
theorem before_pc (a b : List Int) (ha : okL a.length) (hb : okL b.length) : PC Tryz.prog 32 [sl a, sl b] (.pure (.bool (beforeB a b))) := by
  refine PC.of_empty (AC.run (E_ok _) mix Tryz.func32 m32 rfl rfl rfl (Nat.le_of_ble_eq_true rfl) ?_) (by simp [bndL, AV.bnd]) rfl
  unfold beforeB
  by_cases hl : a.length = b.length
  · have hn : ¬ ((a.length : Int) ≠ b.length) := fun h => h (by omega)
    rw [if_pos hl]
    simp only [go_sem, builtinA, hn, decide_false, Nat.reduceEqDiff, Nat.reduceBEq, Nat.reduceAdd, reduceIte, reduceCtorEq, Nat.reduceLeDiff]
    refine wc_forP a.length (fun k => ∀ i (h1 : i < k) (h2 : i < a.length) (h3 : i < b.length), a[i] = b[i]) (fun k => [(0, sl a), (1, sl b), (5, .int .i64 k)]) (fun _ => St.empty) (fun i hi => absurd hi (Nat.not_lt_zero _)) rfl rfl ?_
    intro k hk hP I hI
    rw [lexB_drop a b k hl hP]
    by_cases h : k < a.length
    · have h' : (k : Int) < a.length := by omega
      have h2 : 0 ≤ (k : Int) ∧ (k : Int) < a.length := by omega
      have h2' : 0 ≤ (k : Int) ∧ (k : Int) < b.length := by omega
      have hkb : k < b.length := by omega
      have h3 : a[k]? = some a[k] := List.getElem?_eq_getElem h
      have h3' : b[k]? = some b[k] := List.getElem?_eq_getElem hkb
      have h4 : IntKind.i64.wrap ((k : Int) + 1) = (k + 1 : Nat) := wrap64 (by omega)
      by_cases hb : a[k] = b[k]
      · have hq : ¬ a[k] ≠ b[k] := fun h => h hb
        rw [← lexB_drop a b k hl hP]
        simp only [go_sem, l32_0, builtinA, h', decide_true, h2, h2', ints_get, h3, h3', hq, decide_false, h4, Nat.reduceEqDiff, Nat.reduceBEq, Nat.reduceAdd, reduceIte, reduceCtorEq, Nat.reduceLeDiff]
        refine hI h fun i hi hi2 hi3 => ?_
        by_cases e : i = k
        · subst e; exact hb
        · exact hP i (by omega) hi2 hi3
      · have hd : decide (a[k] ≠ b[k]) = true := decide_eq_true hb
        simp only [go_sem, l32_0, builtinA, h', decide_true, h2, h2', ints_get, h3, h3', hd, Option.map_some, Tryz.f32, Nat.reduceEqDiff, Nat.reduceBEq, Nat.reduceAdd, reduceIte, reduceCtorEq, Nat.reduceLeDiff]
        rw [List.drop_eq_getElem_cons h, List.drop_eq_getElem_cons hkb]
        simp only [lexB, if_neg hb]
    · have h' : ¬ (k : Int) < a.length := by omega
      simp only [go_sem, l32_0, builtinA, h', decide_false, Tryz.f32, Nat.reduceEqDiff, Nat.reduceBEq, Nat.reduceAdd, reduceIte, reduceCtorEq, Nat.reduceLeDiff]
      rw [List.drop_of_length_le (by omega), lexB]
      exact fun x a y b h => by cases h
  · have hn : ((a.length : Int) ≠ b.length) := fun h => hl (by omega)
    have hd := decide_eq_true hn
    rw [if_neg hl]
    simp only [go_sem, builtinA, hd, Tryz.f32, Nat.reduceEqDiff, Nat.reduceBEq, Nat.reduceAdd, reduceIte, reduceCtorEq, Nat.reduceLeDiff]
    simp
end Go.Av.Fx
end
section
namespace Go.Av.Fx
open Go Go.Av Go.Proofs
open Go.Fw (Sq ent Bd Mat Tells Good)
theorem mem_setsL {m : Nat} {s : List Int} : s ∈ setsL m ↔ s = [] ∨ (∃ i : Nat, i < m ∧ s = [(i : Int)]) ∨ ∃ i k : Nat, i < k ∧ k < m ∧ s = [(i : Int), (k : Int)] := by
  unfold setsL ones twos twosAt
  simp only [List.mem_cons, List.mem_append, List.mem_map, List.mem_range, List.mem_flatMap]
  constructor
  · rintro (h | ⟨i, hi, h⟩ | ⟨i, hi, j, hj, h⟩)
    · exact .inl h
    · exact .inr (.inl ⟨i, hi, h.symm⟩)
    · exact .inr (.inr ⟨i, i + 1 + j, by omega, by omega, h.symm⟩)
  · rintro (h | ⟨i, hi, h⟩ | ⟨i, k, hi, hk, h⟩)
    · exact .inl h
    · exact .inr (.inl ⟨i, hi, h.symm⟩)
    · exact .inr (.inr ⟨i, by omega, k - (i + 1), by omega, by rw [h, show i + 1 + (k - (i + 1)) = k by omega]⟩)
theorem setsL_le2 {m : Nat} {s : List Int} (h : s ∈ setsL m) : s.length ≤ 2 := by
  rcases mem_setsL.1 h with rfl | ⟨i, _, rfl⟩ | ⟨i, k, _, _, rfl⟩ <;> simp
theorem setsL_in {m : Nat} {s : List Int} (h : s ∈ setsL m) : ∀ x ∈ s, 0 ≤ x ∧ x < m := by
  intro x hx
  rcases mem_setsL.1 h with rfl | ⟨i, hi, rfl⟩ | ⟨i, k, hi, hk, rfl⟩
  · cases hx
  · simp at hx; subst hx; omega
  · simp at hx; rcases hx with rfl | rfl <;> omega
def upB (lo hi : Int) (s : List Int) : Bool := (List.range s.length).all fun i => inB (s.getD i 0) lo hi && (decide (i = 0) || decide (s.getD (i - 1) 0 < s.getD i 0))
theorem up_iff {lo hi : Int} {s : List Int} : upB lo hi s = true ↔ (∀ x ∈ s, lo ≤ x ∧ x ≤ hi) ∧ s.Pairwise (· < ·) := by
  unfold upB
  rw [List.all_eq_true]
  constructor
  · intro h
    have h' : ∀ i (hi' : i < s.length), (lo ≤ s[i] ∧ s[i] ≤ hi) ∧ (i = 0 ∨ s.getD (i - 1) 0 < s[i]) := fun i hi' => by
      have := h i (List.mem_range.2 hi')
      rw [Bool.and_eq_true, inB_iff, Bool.or_eq_true, decide_eq_true_iff, decide_eq_true_iff, getD_at _ hi'] at this
      exact this
    refine ⟨fun x hx => ?_, ?_⟩
    · obtain ⟨i, hi', rfl⟩ := List.mem_iff_getElem.1 hx
      exact (h' i hi').1
    · rw [List.pairwise_iff_getElem]
      intro i j hi' hj hij
      induction j with
      | zero => omega
      | succ j ih =>
        have h1 := (h' (j + 1) hj).2
        have h2 : s.getD (j + 1 - 1) 0 = s[j]'(by omega) := by rw [Nat.add_sub_cancel]; exact getD_at _ (by omega)
        rw [h2] at h1
        by_cases e : i = j
        · subst e; omega
        · have := ih (by omega) (by omega); omega
  · rintro ⟨h1, h2⟩ i hi'
    have hi' := List.mem_range.1 hi'
    rw [Bool.and_eq_true, inB_iff, Bool.or_eq_true, decide_eq_true_iff, decide_eq_true_iff, getD_at _ hi']
    refine ⟨h1 _ (List.getElem_mem hi'), ?_⟩
    by_cases e : i = 0
    · exact .inl e
    · refine .inr ?_
      rw [getD_at _ (by omega : i - 1 < s.length)]
      exact List.pairwise_iff_getElem.1 h2 (i - 1) i (by omega) hi' (by omega)
theorem isSet_up (l : LLine) (s : List Int) : isSetB l s = upB 0 (l.gives.length - 1) s := rfl
theorem set_mem {l : LLine} {s : List Int} (h1 : isSetB l s = true) (h2 : s.length ≤ 2) : s ∈ setsL l.gives.length := by
  rw [isSet_up, up_iff] at h1
  obtain ⟨h1, h3⟩ := h1
  rw [mem_setsL]
  match s, h2 with
  | [], _ => exact .inl rfl
  | [a], _ =>
    have := h1 a List.mem_cons_self
    exact .inr (.inl ⟨a.toNat, by omega, by rw [Int.toNat_of_nonneg this.1]⟩)
  | [a, b], _ =>
    have ha := h1 a List.mem_cons_self
    have hb := h1 b (List.mem_cons_of_mem _ List.mem_cons_self)
    have hab : a < b := by
      have := List.pairwise_cons.1 h3
      exact this.1 b List.mem_cons_self
    exact .inr (.inr ⟨a.toNat, b.toNat, by omega, by omega, by rw [Int.toNat_of_nonneg ha.1, Int.toNat_of_nonneg hb.1]⟩)
theorem mem_set {l : LLine} {s : List Int} (h : s ∈ setsL l.gives.length) : isSetB l s = true := by
  rw [isSet_up, up_iff]
  refine ⟨fun x hx => by have := setsL_in h x hx; omega, ?_⟩
  rcases mem_setsL.1 h with rfl | ⟨i, hi, rfl⟩ | ⟨i, k, hi, hk, rfl⟩
  · exact List.Pairwise.nil
  · simp
  · simp; omega
theorem sets_sorted (m : Nat) (h : m ≤ 5) : (setsL m).Pairwise fun a b => beforeB a b = true := by
  match m, h with
  | 0, _ => decide
  | 1, _ => decide
  | 2, _ => decide
  | 3, _ => decide
  | 4, _ => decide
  | 5, _ => decide
theorem setsOut_sorted {l : LLine} (h : Lw l) : (setsOut l).Pairwise fun a b => beforeB a b = true := by
  rw [setsOut_eq]
  exact (sets_sorted _ h.pts.2).filter _
theorem setsOut_step {l : LLine} (h : Lw l) {i : Nat} (hi : 0 < i) (hi' : i < (setsOut l).length) : beforeB ((setsOut l).getD (i - 1) []) ((setsOut l).getD i []) = true := by
  rw [getD_at _ hi', getD_at _ (by omega : i - 1 < (setsOut l).length)]
  exact List.pairwise_iff_getElem.1 (setsOut_sorted h) (i - 1) i (by omega) hi' (by omega)
def cntS (s : List Int) : Nat → Int
  | 0 => 0
  | k + 1 => cntS s k + (if s.contains (k : Int) = true then 1 else 0)
theorem cnt_loss {l : LLine} {s : List Int} {f : Nat → Int} (hf : Fl l s f) : ∀ k, k ≤ l.gives.length → l.least * cntS s k ≤ f 0 - f k - gsum l k ∧ f 0 - f k - gsum l k ≤ l.most * cntS s k
  | 0, _ => by simp [cntS, gsum]
  | k + 1, hk => by
    have ih := cnt_loss hf k (by omega)
    have hs := hf.step k (by omega)
    unfold lowL highL at hs
    show l.least * (cntS s k + _) ≤ f 0 - f (k + 1) - (gsum l k + l.gives.getD k 0) ∧ f 0 - f (k + 1) - (gsum l k + l.gives.getD k 0) ≤ l.most * (cntS s k + _)
    split
    · rename_i g
      rw [if_pos g, if_pos g] at hs
      rw [Int.mul_add, Int.mul_add, Int.mul_one, Int.mul_one]; omega
    · rename_i g
      rw [if_neg g, if_neg g] at hs
      rw [Int.add_zero]; omega
theorem cntS_one (i : Nat) : ∀ k : Nat, cntS [(i : Int)] k = if i < k then 1 else 0
  | 0 => by simp [cntS]
  | k + 1 => by
    unfold cntS
    rw [cntS_one i k]
    have e : ([(i : Int)].contains (k : Int) = true) ↔ k = i := by simp; omega
    by_cases g : k = i
    · rw [if_pos (e.2 g), if_neg (by omega), if_pos (by omega)]; rfl
    · rw [if_neg (fun x => g (e.1 x))]
      by_cases g2 : i < k
      · rw [if_pos g2, if_pos (by omega)]; rfl
      · rw [if_neg g2, if_neg (by omega)]; rfl
theorem cntS_two {i j : Nat} (hij : i < j) : ∀ k : Nat, cntS [(i : Int), (j : Int)] k = (if i < k then 1 else 0) + (if j < k then 1 else 0)
  | 0 => by simp [cntS]
  | k + 1 => by
    unfold cntS
    rw [cntS_two hij k]
    have e : ([(i : Int), (j : Int)].contains (k : Int) = true) ↔ k = i ∨ k = j := by simp; omega
    by_cases g : k = i ∨ k = j
    · rw [if_pos (e.2 g)]
      rcases g with rfl | rfl
      · rw [if_neg (by omega), if_neg (by omega), if_pos (by omega), if_neg (by omega)]; rfl
      · rw [if_pos (by omega), if_neg (by omega), if_pos (by omega), if_pos (by omega)]; rfl
    · rw [if_neg (fun x => g (e.1 x))]
      have g1 : (i < k) ↔ (i < k + 1) := by omega
      have g2 : (j < k) ↔ (j < k + 1) := by omega
      simp only [g1, g2, Int.add_zero]
theorem cntS_len {m : Nat} {s : List Int} (h : s ∈ setsL m) : cntS s m = s.length := by
  rcases mem_setsL.1 h with rfl | ⟨i, hi, rfl⟩ | ⟨i, k, hi, hk, rfl⟩
  · have : ∀ k, cntS [] k = 0 := fun k => by
      induction k with
      | zero => rfl
      | succ k ih => unfold cntS; rw [ih]; simp
    rw [this]; rfl
  · rw [cntS_one, if_pos hi]; rfl
  · rw [cntS_two hi, if_pos (by omega), if_pos hk]; rfl
theorem expl_lost {l : LLine} (h : Lw l) {s : List Int} (hs : s ∈ setsL l.gives.length) {W : Mat} (hW : explM l s = some W) :
    (lostS l W 0 l.gives.length).low ≤ (lostS l W 0 l.gives.length).high ∧ l.least * s.length ≤ (lostS l W 0 l.gives.length).low ∧ (lostS l W 0 l.gives.length).high ≤ l.most * s.length := by
  have hsp := lost_spn h hW (Nat.zero_le _) (Nat.le_refl _)
  obtain ⟨f1, p1, e1⟩ := hsp.lo
  obtain ⟨f2, p2, e2⟩ := hsp.hi
  have h1 := cnt_loss p1 l.gives.length (Nat.le_refl _)
  have h2 := cnt_loss p2 l.gives.length (Nat.le_refl _)
  have h3 := hsp.bd f1 p1
  rw [cntS_len hs] at h1 h2
  have g0 : gsum l 0 = 0 := rfl
  unfold lossF at e1 e2 h3
  rw [g0] at e1 e2 h3
  omega
end Go.Av.Fx
end
section
namespace Go.Av.Fx
open Go Go.Av Go.Proofs
open Go.Fw (Sq ent Bd Mat Tells Good)
theorem poss_out {l : LLine} : possB l = true ↔ 0 < (setsOut l).length := by
  rw [setsOut_len]; exact poss_len
theorem sets_100 {l : LLine} (h : Lw l) : (setsOut l).length ≤ 100 := by
  rw [setsOut_eq]
  refine Nat.le_trans (List.length_filter_le _ _) ?_
  have := h.pts
  match hm : l.gives.length, this.2 with
  | 0, _ => decide
  | 1, _ => decide
  | 2, _ => decide
  | 3, _ => decide
  | 4, _ => decide
  | 5, _ => decide
end Go.Av.Fx
end
section
namespace Go.Av.Fx
open Go Go.Av Go.Av.Tb Go.Proofs
theorem askE_cases (l : LLine) (fine : Bool) : (askE l fine = 2 ∧ (isLineB l = false ∨ fine = false)) ∨ (askE l fine = 7 ∧ isLineB l = true ∧ fine = true ∧ possB l = false) ∨ (askE l fine = 0 ∧ isLineB l = true ∧ fine = true ∧ possB l = true) := by
  unfold askE
  cases isLineB l <;> cases fine <;> cases possB l <;> simp
end Go.Av.Fx
end
section
namespace Go.Av.Fx
open Go Go.Av Go.Av.Tb Go.Proofs
theorem eq42 (a b c d : Int) : binA T .eql 42 (.agg [.int .i64 a, .int .i64 b]) (.agg [.int .i64 c, .int .i64 d]) = some (.bool (decide (a = c) && decide (b = d))) := by
  have : binA T .eql 42 (.agg [.int .i64 a, .int .i64 b]) (.agg [.int .i64 c, .int .i64 d]) = (if (a == c) = true then (if (b == d) = true then some true else some false) else some false).map AV.bool := rfl
  rw [this]
  by_cases h1 : a = c <;> by_cases h2 : b = d <;> simp [h1, h2]
theorem ne4 (a b : Bool) : binA T .neq 4 (.bool a) (.bool b) = some (.bool (a ^^ b)) := by
  cases a <;> cases b <;> rfl
def cntU (L : List (List Int)) (i : Int) (k : Nat) : Nat := ((L.take k).filter fun s => s.contains i).length
theorem cntU_succ {L : List (List Int)} {i : Int} {k : Nat} (h : k < L.length) : cntU L i (k + 1) = cntU L i k + (if L[k].contains i = true then 1 else 0) := by
  unfold cntU
  rw [List.take_add_one, List.getElem?_eq_getElem h, Option.toList_some, List.filter_append, List.length_append, List.filter_cons, List.filter_nil]
  split <;> rfl
theorem cntU_le (L : List (List Int)) (i : Int) (k : Nat) : cntU L i k ≤ k := by
  unfold cntU
  exact Nat.le_trans (List.length_filter_le _ _) (by simp; omega)
theorem sets_loop1 (l : LLine) (ok : okLine l) (hw : Lw l) (hp : possB l = true) (Q : AQ) (w : AV) (B : Option Blk)
    (hQ : Q .normal [(2, .ref 0 0), (5, sll (setsOut l)), (7, w), (11, .int .i64 (setsOut l).length), (140, .bool false)] ⟨[some (.cells (lineC l)), B], 0, []⟩) :
    WC (E 218) (.loop l4_0) (blockQ 0 Q) [(2, .ref 0 0), (5, sll (setsOut l)), (7, w), (11, .int .i64 0)] ⟨[some (.cells (lineC l)), B], 0, []⟩ := by
  have hkl : (rKnown l).length = l.gives.length := by simp [rKnown]
  have hpts := hw.pts
  have hl100 := sets_100 hw
  have hl0 := poss_out.1 hp
  have hx : ∀ x ∈ setsOut l, okL x.length := fun x hx => by
    have := setsL_le2 ((mem_setsOut hw).1 hx).1
    show _ < _; omega
  refine wc_for (setsOut l).length (fun k => [(2, .ref 0 0), (5, sll (setsOut l)), (7, w), (11, .int .i64 k)]) (fun _ => ⟨[some (.cells (lineC l)), B], 0, []⟩) rfl rfl ?_
  intro k hk I hI
  obtain ⟨C, hB⟩ : ∃ C, l4_0 = .seq (.seq (.region [2, 5, 7, 11, 140] r4_13) (.cond (.tmp 140) .skip (.exit 0))) C := ⟨_, rfl⟩
  have hB2 := hB
  rw [hB]
  by_cases h : k < (setsOut l).length
  · have h' : (k : Int) < (setsOut l).length := by omega
    have h2 : 0 ≤ (k : Int) ∧ (k : Int) < (setsOut l).length := by omega
    have h3 : (setsOut l)[k]? = some (setsOut l)[k] := List.getElem?_eq_getElem h
    have h4 : IntKind.i64.wrap ((k : Int) + 1) = (k + 1 : Nat) := wrap64 (by omega)
    have hm := (mem_setsOut hw).1 (List.getElem_mem h)
    have hS := rSet_pc l ok.1 (setsOut l)[k] (hx _ (List.getElem_mem h))
    rw [mem_set hm.1, decide_eq_true (by have := setsL_le2 hm.1; omega)] at hS
    have h5 : ¬ (((setsOut l)[k].length : Int) > l.taps) := by omega
    simp only [go_sem, builtinA, h', decide_true, Nat.reduceEqDiff, Nat.reduceBEq, Nat.reduceAdd, reduceIte, reduceCtorEq, Nat.reduceLeDiff]
    unfold l4_0 at hB2
    injection hB2 with _ hB2
    subst hB2
    simp only [go_sem, builtinA, decide_true, h2, sls_get, h3, Option.map_some, Nat.reduceEqDiff, Nat.reduceBEq, Nat.reduceAdd, reduceIte, reduceCtorEq, Nat.reduceLeDiff]
    refine qp n29 hS (SubL.refl _) ?_
    by_cases hz : k = 0
    · have hz' : ¬ (k : Int) > 0 := by omega
      simp only [go_sem, un_not, Bool.not_true, h5, decide_false, hz', h2, sls_get, h3, Option.map_some, builtinA, h4, Nat.reduceEqDiff, Nat.reduceBEq, Nat.reduceAdd, reduceIte, reduceCtorEq, Nat.reduceLeDiff]
      exact hI h
    · have hz' : (k : Int) > 0 := by omega
      have w1 : IntKind.i64.wrap ((k : Int) - 1) = (k - 1 : Nat) := by rw [wrap64 (by omega)]; omega
      have w2 : 0 ≤ ((k - 1 : Nat) : Int) ∧ ((k - 1 : Nat) : Int) < (setsOut l).length := by omega
      have w3 : (setsOut l)[k - 1]? = some (setsOut l)[k - 1] := List.getElem?_eq_getElem (by omega)
      have hB := before_pc (setsOut l)[k - 1] (setsOut l)[k] (hx _ (List.getElem_mem _)) (hx _ (List.getElem_mem h))
      have hs := setsOut_step hw (by omega : 0 < k) h
      rw [getD_at _ h, getD_at _ (by omega : k - 1 < (setsOut l).length)] at hs
      rw [hs] at hB
      simp only [go_sem, un_not, Bool.not_true, h5, decide_false, decide_true, hz', h2, sls_get, h3, Option.map_some, builtinA, w1, w2, w3, Nat.reduceEqDiff, Nat.reduceBEq, Nat.reduceAdd, reduceIte, reduceCtorEq, Nat.reduceLeDiff]
      refine cp n32 hB (SubL.refl _) ?_
      simp only [go_sem, un_not, Bool.not_true, h4, Nat.reduceEqDiff, Nat.reduceBEq, Nat.reduceAdd, reduceIte, reduceCtorEq, Nat.reduceLeDiff]
      exact hI h
  have h' : ¬ (k : Int) < (setsOut l).length := by omega
  have ek : k = (setsOut l).length := by omega
  subst ek
  simp only [go_sem, builtinA, h', decide_false, Nat.reduceEqDiff, Nat.reduceBEq, Nat.reduceAdd, reduceIte, reduceCtorEq, Nat.reduceLeDiff]
  exact hQ
theorem sets_loop3 (L : List (List Int)) (hl : L.length ≤ 1000) (hx : ∀ x ∈ L, okL x.length) (Q : AQ) (w : AV) (k : Nat) (B B' : Option Blk)
    (hQ : Q .normal [(5, sll L), (7, w), (12, .int .i64 k), (13, .int .i64 (cntU L k L.length : Nat)), (14, .int .i64 L.length), (186, .bool false)] ⟨[B, B'], 0, []⟩) :
    WC (E 218) (.loop l4_2) (blockQ 4 Q) [(5, sll L), (7, w), (12, .int .i64 k), (13, .int .i64 0), (14, .int .i64 0)] ⟨[B, B'], 0, []⟩ := by
  refine wc_for L.length (fun j => [(5, sll L), (7, w), (12, .int .i64 k), (13, .int .i64 (cntU L k j : Nat)), (14, .int .i64 j)]) (fun _ => ⟨[B, B'], 0, []⟩) rfl rfl ?_
  intro j hj J hJ
  obtain ⟨C, hB⟩ : ∃ C, l4_2 = .seq (.seq (.region [5, 7, 12, 13, 14, 186] r4_22) (.cond (.tmp 186) .skip (.exit 4))) C := ⟨_, rfl⟩
  have hB2 := hB
  rw [hB]
  by_cases g : j < L.length
  · have g' : (j : Int) < L.length := by omega
    have g2 : 0 ≤ (j : Int) ∧ (j : Int) < L.length := by omega
    have g3 : L[j]? = some L[j] := List.getElem?_eq_getElem g
    have g4 : IntKind.i64.wrap ((j : Int) + 1) = (j + 1 : Nat) := wrap64 (by omega)
    have g5 := cntU_le L k j
    have g6 : IntKind.i64.wrap ((cntU L k j : Int) + 1) = (cntU L k j + 1 : Nat) := wrap64 (by omega)
    have hL := lhas_pc L[j] (hx _ (List.getElem_mem g)) k
    have hs := cntU_succ (i := (k : Int)) g
    have hJ := hJ g
    simp only [go_sem, builtinA, g', decide_true, Nat.reduceEqDiff, Nat.reduceBEq, Nat.reduceAdd, reduceIte, reduceCtorEq, Nat.reduceLeDiff]
    unfold l4_2 at hB2
    injection hB2 with _ hB2
    subst hB2
    simp only [go_sem, builtinA, decide_true, g2, sls_get, g3, Option.map_some, Nat.reduceEqDiff, Nat.reduceBEq, Nat.reduceAdd, reduceIte, reduceCtorEq, Nat.reduceLeDiff]
    refine cp n33 hL (SubL.refl _) ?_
    cases hb : L[j].contains (k : Int)
    · rw [hb, if_neg (by decide)] at hs
      rw [hs] at hJ
      simp only [go_sem, g4, Nat.reduceEqDiff, Nat.reduceBEq, Nat.reduceAdd, reduceIte, reduceCtorEq, Nat.reduceLeDiff]
      exact hJ
    · rw [hb, if_pos rfl] at hs
      rw [hs] at hJ
      simp only [go_sem, g4, g6, Nat.reduceEqDiff, Nat.reduceBEq, Nat.reduceAdd, reduceIte, reduceCtorEq, Nat.reduceLeDiff]
      exact hJ
  have g' : ¬ (j : Int) < L.length := by omega
  have ej : j = L.length := by omega
  subst ej
  simp only [go_sem, builtinA, g', decide_false, Nat.reduceEqDiff, Nat.reduceBEq, Nat.reduceAdd, reduceIte, reduceCtorEq, Nat.reduceLeDiff]
  exact hQ
theorem sets_loop2 (l : LLine) (ok : okLine l) (hw : Lw l) (hp : possB l = true) (Q : AQ) (B B' : Option Blk)
    (hQ : Q .normal [(5, sll (setsOut l)), (7, sl (rKnown l)), (12, .int .i64 l.gives.length), (180, .bool false)] ⟨[B, B'], 0, []⟩) :
    WC (E 218) (.loop l4_1) (blockQ 2 Q) [(5, sll (setsOut l)), (7, sl (rKnown l)), (12, .int .i64 0)] ⟨[B, B'], 0, []⟩ := by
  have hkl : (rKnown l).length = l.gives.length := by simp [rKnown]
  have hpts := hw.pts
  have hl100 := sets_100 hw
  have hl0 := poss_out.1 hp
  have hx : ∀ x ∈ setsOut l, okL x.length := fun x hx => by
    have := setsL_le2 ((mem_setsOut hw).1 hx).1
    show _ < _; omega
  refine wc_for l.gives.length (fun k => [(5, sll (setsOut l)), (7, sl (rKnown l)), (12, .int .i64 k)]) (fun _ => ⟨[B, B'], 0, []⟩) rfl rfl ?_
  intro k hk I hI
  obtain ⟨C, hB⟩ : ∃ C, l4_1 = .seq (.seq (.region [5, 7, 12, 180] r4_18) (.cond (.tmp 180) .skip (.exit 2))) C := ⟨_, rfl⟩
  have hB2 := hB
  rw [hB]
  by_cases h : k < l.gives.length
  · have h' : (k : Int) < (rKnown l).length := by omega
    have h2 : 0 ≤ (k : Int) ∧ (k : Int) < (rKnown l).length := by omega
    have h4 : IntKind.i64.wrap ((k : Int) + 1) = (k + 1 : Nat) := wrap64 (by omega)
    have h3 : (rKnown l)[k]? = some (rWord (setsOut l) k) := by
      unfold rKnown; rw [List.getElem?_map, List.getElem?_range h, rSets_eq hw]; rfl
    simp only [go_sem, builtinA, h', decide_true, Nat.reduceEqDiff, Nat.reduceBEq, Nat.reduceAdd, reduceIte, reduceCtorEq, Nat.reduceLeDiff]
    unfold l4_1 at hB2
    injection hB2 with _ hB2
    subst hB2
    simp only [go_sem, builtinA, decide_true, Nat.reduceEqDiff, Nat.reduceBEq, Nat.reduceAdd, reduceIte, reduceCtorEq, Nat.reduceLeDiff]
    refine sets_loop3 (setsOut l) (by omega) hx _ (sl (rKnown l)) k _ _ ?_
    have hcl := cntU_le (setsOut l) k (setsOut l).length
    have hr : rWord (setsOut l) k = if cntU (setsOut l) k (setsOut l).length = (setsOut l).length then 3 else if cntU (setsOut l) k (setsOut l).length = 0 then 1 else 2 := by
      unfold cntU; rw [List.take_length]; rfl
    generalize cntU (setsOut l) k (setsOut l).length = c at hcl hr
    generalize rWord (setsOut l) k = r at h3 hr
    have e1 : (decide (r = 3) ^^ decide ((c : Int) = (setsOut l).length)) = false := by
      rw [hr]
      by_cases g1 : c = (setsOut l).length
      · rw [if_pos g1, decide_eq_true (p := ((c : Int) = _)) (by omega)]; rfl
      · rw [if_neg g1, decide_eq_false (p := ((c : Int) = _)) (by omega)]
        split <;> rfl
    have e2 : (decide (r = 1) ^^ decide ((c : Int) = 0)) = false := by
      rw [hr]
      by_cases g1 : c = (setsOut l).length
      · rw [if_pos g1, decide_eq_false (p := ((c : Int) = _)) (by omega)]; rfl
      · rw [if_neg g1]
        by_cases g2 : c = 0
        · rw [if_pos g2, decide_eq_true (p := ((c : Int) = _)) (by omega)]; rfl
        · rw [if_neg g2, decide_eq_false (p := ((c : Int) = _)) (by omega)]; rfl
    simp only [go_sem, builtinA, decide_false, h2, ints_get, h3, Option.map_some, ne4, e1, e2, h4, Nat.reduceEqDiff, Nat.reduceBEq, Nat.reduceAdd, reduceIte, reduceCtorEq, Nat.reduceLeDiff]
    exact hI h
  have h' : ¬ (k : Int) < (rKnown l).length := by omega
  have ek : k = l.gives.length := by omega
  subst ek
  simp only [go_sem, builtinA, h', decide_false, Nat.reduceEqDiff, Nat.reduceBEq, Nat.reduceAdd, reduceIte, reduceCtorEq, Nat.reduceLeDiff]
  exact hQ
set_option maxHeartbeats 2000000 in
theorem LeakSets_pc (l : LLine) (ok : okLine l) (set : List Int) (hs : okL set.length) : PC Tryz.prog 4 [lineA l, sl set] (.pure (.bool true)) := by
  refine PC.of_empty (AC.run (E_ok _) mix Tryz.func4 m4 rfl rfl rfl (Nat.le_of_ble_eq_true rfl) ?_) (by simp [bndL, AV.bnd]) rfl
  simp only [go_sem, boxA, Nat.reduceEqDiff, Nat.reduceBEq, Nat.reduceAdd, reduceIte, reduceCtorEq, Nat.reduceLeDiff]
  refine cp n19 (short_pc l) (SubL.refl _) ?_
  cases hsh : (decide ((l.gives.length : Int) ≤ 7) && decide ((l.counts.length : Int) ≤ 10))
  · simp only [go_sem, un_not, Bool.not_false, Nat.reduceEqDiff, Nat.reduceBEq, Nat.reduceAdd, reduceIte, reduceCtorEq, Nat.reduceLeDiff]
    refine cp n20 known_pc (SubL.refl _) ?_
    simp only [go_sem, Tryz.f4, Nat.reduceEqDiff, Nat.reduceBEq, Nat.reduceAdd, reduceIte, reduceCtorEq, Nat.reduceLeDiff]
  simp only [go_sem, un_not, Bool.not_true, Nat.reduceEqDiff, Nat.reduceBEq, Nat.reduceAdd, reduceIte, reduceCtorEq, Nat.reduceLeDiff]
  refine cp n28 (rLine_pc l ok) (SubL.refl _) ?_
  cases h : isLineB l
  · simp only [go_sem, un_not, Bool.not_false, Nat.reduceEqDiff, Nat.reduceBEq, Nat.reduceAdd, reduceIte, reduceCtorEq, Nat.reduceLeDiff]
    refine cp n20 known_pc (SubL.refl _) ?_
    simp only [go_sem, Tryz.f4, Nat.reduceEqDiff, Nat.reduceBEq, Nat.reduceAdd, reduceIte, reduceCtorEq, Nat.reduceLeDiff]
  by_cases h4 : (set.length : Int) > 4
  · simp only [go_sem, un_not, Bool.not_true, builtinA, h4, decide_true, Nat.reduceEqDiff, Nat.reduceBEq, Nat.reduceAdd, reduceIte, reduceCtorEq, Nat.reduceLeDiff]
    refine cp n20 known_pc (SubL.refl _) ?_
    simp only [go_sem, Tryz.f4, Nat.reduceEqDiff, Nat.reduceBEq, Nat.reduceAdd, reduceIte, reduceCtorEq, Nat.reduceLeDiff]
  simp only [go_sem, un_not, Bool.not_true, builtinA, h4, decide_false, Nat.reduceEqDiff, Nat.reduceBEq, Nat.reduceAdd, reduceIte, reduceCtorEq, Nat.reduceLeDiff]
  refine cp n29 (rSet_pc l ok.1 set hs) (SubL.refl _) ?_
  cases hset : (isSetB l set && decide ((set.length : Int) ≤ 2))
  · simp only [go_sem, un_not, Bool.not_false, Nat.reduceEqDiff, Nat.reduceBEq, Nat.reduceAdd, reduceIte, reduceCtorEq, Nat.reduceLeDiff]
    refine cp n20 known_pc (SubL.refl _) ?_
    simp only [go_sem, Tryz.f4, Nat.reduceEqDiff, Nat.reduceBEq, Nat.reduceAdd, reduceIte, reduceCtorEq, Nat.reduceLeDiff]
  simp only [go_sem, un_not, Bool.not_true, Nat.reduceEqDiff, Nat.reduceBEq, Nat.reduceAdd, reduceIte, reduceCtorEq, Nat.reduceLeDiff]
  have hk := Known_pc l ok
  have hS := Sets_pc l ok
  have hE := Explains_pc l ok set hs
  rw [Bool.and_eq_true, decide_eq_true_iff] at hset
  have hln := isLine_iff.1 h
  have hw := hln.lw
  have hpts := hln.pts
  have hmem := set_mem hset.1 (by omega)
  unfold knownA at hk
  unfold setsA at hS
  unfold explA at hE
  rw [if_pos ⟨h, by omega⟩, if_pos hset.1] at hE
  rcases askE_cases l true with ⟨_, he | he⟩ | ⟨he, _, _, hp⟩ | ⟨he, _, _, hp⟩
  · rw [h] at he; cases he
  · cases he
  · rw [he] at hk hS
    rw [if_neg (by decide)] at hk hS
    have hx : explM l set = none := by
      cases hx : explM l set with
      | none => rfl
      | some W =>
        have h1 := (expl_iff hw set).1 (by rw [hx]; rfl)
        rw [(poss_iff hw).2 ⟨set, hmem, h1⟩] at hp; cases hp
    rw [hx] at hE
    refine cp n22 hS (SubL.refl _) ?_
    simp only [go_sem, extractA, Nat.reduceEqDiff, Nat.reduceBEq, Nat.reduceAdd, reduceIte, reduceCtorEq, Nat.reduceLeDiff]
    refine cp n21 hk (SubL.refl _) ?_
    simp only [go_sem, extractA, Nat.reduceEqDiff, Nat.reduceBEq, Nat.reduceAdd, reduceIte, reduceCtorEq, Nat.reduceLeDiff]
    refine cp n30 hE (SubL.refl _) ?_
    have z1 : ((7 : Int) ≠ 0) := by decide
    have z2 : ¬ ((7 : Int) ≠ 7) := by decide
    have z3 : ((5 : Int) ≠ 0) := by decide
    have z4 : ¬ ((5 : Int) ≠ 5) := by decide
    simp only [go_sem, extractA, z1, z2, z3, z4, decide_true, decide_false, spA, eq42, Nat.reduceEqDiff, Nat.reduceBEq, Nat.reduceAdd, reduceIte, reduceCtorEq, Nat.reduceLeDiff]
    refine cp n20 known_pc (SubL.refl _) ?_
    simp only [go_sem, Tryz.f4, Nat.reduceEqDiff, Nat.reduceBEq, Nat.reduceAdd, reduceIte, reduceCtorEq, Nat.reduceLeDiff]
  rw [he] at hk hS
  rw [if_pos rfl] at hk hS
  replace hS : PC Tryz.prog 22 [lineA l] (.pure (.tuple [sll (setsOut l), .int .i64 0])) := hS
  have hwl : (wordsT (theftsL l) l.gives.length).length = l.gives.length := by simp [wordsT]
  have hkk : AV.slice (ints (wordsT (theftsL l) l.gives.length)) l.gives.length .unk = sl (wordsT (theftsL l) l.gives.length) := by
    show _ = AV.slice _ (wordsT (theftsL l) l.gives.length).length _
    rw [hwl]
  rw [hkk] at hk
  rw [← rKnown_eq hw hp] at hk
  have hkl : (rKnown l).length = l.gives.length := by simp [rKnown]
  have hr := rSets_eq hw
  have hl100 := sets_100 hw
  have hl0 := poss_out.1 hp
  have hx : ∀ x ∈ setsOut l, okL x.length := fun x hx => by
    have := setsL_le2 ((mem_setsOut hw).1 hx).1
    show _ < _; omega
  have hmo : decide (set ∈ setsOut l) = (explM l set).isSome := by
    rw [Bool.eq_iff_iff, decide_eq_true_iff, mem_setsOut hw, expl_iff hw]
    exact ⟨fun x => x.2, fun x => ⟨hmem, x⟩⟩
  have hli := listed_pc (setsOut l) set (by show _ < _; omega) hx hs
  rw [hmo] at hli
  refine cp n22 hS (SubL.refl _) ?_
  simp only [go_sem, extractA, Nat.reduceEqDiff, Nat.reduceBEq, Nat.reduceAdd, reduceIte, reduceCtorEq, Nat.reduceLeDiff]
  refine cp n21 hk (SubL.refl _) ?_
  simp only [go_sem, extractA, Nat.reduceEqDiff, Nat.reduceBEq, Nat.reduceAdd, reduceIte, reduceCtorEq, Nat.reduceLeDiff]
  have c1 : ¬ (((setsOut l).length : Int) = 0) := by omega
  have c2 : ¬ (((setsOut l).length : Int) > 100) := by omega
  have c3 : ¬ (((rKnown l).length : Int) ≠ l.gives.length) := by omega
  have z1 : ¬ ((0 : Int) ≠ 0) := by decide
  cases hm : explM l set with
  | none =>
    rw [hm] at hli hE
    refine cp n30 hE (SubL.refl _) ?_
    have z3 : ((5 : Int) ≠ 0) := by decide
    have z4 : ¬ ((5 : Int) ≠ 5) := by decide
    have z5 : ¬ ((5 : Int) = 0) := by decide
    simp only [go_sem, extractA, z1, z3, z4, z5, decide_true, decide_false, spA, builtinA, c1, c2, c3, Nat.reduceEqDiff, Nat.reduceBEq, Nat.reduceAdd, reduceIte, reduceCtorEq, Nat.reduceLeDiff]
    refine cp n31 hli (SubL.refl _) ?_
    simp only [go_sem, z5, decide_true, decide_false, ne4, Option.isSome_none, Bool.xor_self, Nat.reduceEqDiff, Nat.reduceBEq, Nat.reduceAdd, reduceIte, reduceCtorEq, Nat.reduceLeDiff]
    refine sets_loop1 l ok hw hp _ (sl (rKnown l)) _ ?_
    simp only [go_sem, Nat.reduceEqDiff, Nat.reduceBEq, Nat.reduceAdd, reduceIte, reduceCtorEq, Nat.reduceLeDiff]
    refine sets_loop2 l ok hw hp _ _ _ ?_
    simp only [go_sem, Nat.reduceEqDiff, Nat.reduceBEq, Nat.reduceAdd, reduceIte, reduceCtorEq, Nat.reduceLeDiff]
    refine cp n20 known_pc (SubL.refl _) ?_
    simp only [go_sem, Tryz.f4, Nat.reduceEqDiff, Nat.reduceBEq, Nat.reduceAdd, reduceIte, reduceCtorEq, Nat.reduceLeDiff]
  | some W =>
    rw [hm] at hli hE
    obtain ⟨e1, e2, e3⟩ := expl_lost hw hmem hm
    replace hE : PC Tryz.prog 30 [lineA l, sl set] (.pure (.tuple [spA (lostS l W 0 l.gives.length), .int .i64 0])) := hE
    generalize lostS l W 0 l.gives.length = sp at hE e1 e2 e3
    obtain ⟨lo, hi⟩ := sp
    simp only at e1 e2 e3
    refine cp n30 hE (SubL.refl _) ?_
    have hll := hw.least
    have hlm := hw.most
    have hsl : set.length ≤ 2 := by omega
    have w1 : IntKind.i64.wrap (l.least * (set.length : Int)) = l.least * set.length := by
      match set, hsl with
      | [], _ => exact wrap64 (by simp)
      | [_], _ => exact wrap64 (by simp; omega)
      | [_, _], _ => exact wrap64 (by simp; omega)
    have w2 : IntKind.i64.wrap (l.most * (set.length : Int)) = l.most * set.length := by
      match set, hsl with
      | [], _ => exact wrap64 (by simp)
      | [_], _ => exact wrap64 (by simp; omega)
      | [_, _], _ => exact wrap64 (by simp; omega)
    have f1 : ¬ (lo > hi) := by omega
    have f2 : ¬ (lo < l.least * set.length) := by omega
    have f3 : ¬ (hi > l.most * set.length) := by omega
    have z3 : decide ((0 : Int) = 0) = true := rfl
    simp only [go_sem, extractA, z1, decide_true, decide_false, spA, builtinA, c1, c2, c3, Nat.reduceEqDiff, Nat.reduceBEq, Nat.reduceAdd, reduceIte, reduceCtorEq, Nat.reduceLeDiff]
    refine cp n31 hli (SubL.refl _) ?_
    simp only [go_sem, z3, decide_true, decide_false, ne4, builtinA, f1, f2, f3, w1, w2, Option.isSome_some, Bool.xor_self, Nat.reduceEqDiff, Nat.reduceBEq, Nat.reduceAdd, reduceIte, reduceCtorEq, Nat.reduceLeDiff]
    refine sets_loop1 l ok hw hp _ (sl (rKnown l)) _ ?_
    simp only [go_sem, Nat.reduceEqDiff, Nat.reduceBEq, Nat.reduceAdd, reduceIte, reduceCtorEq, Nat.reduceLeDiff]
    refine sets_loop2 l ok hw hp _ _ _ ?_
    simp only [go_sem, Nat.reduceEqDiff, Nat.reduceBEq, Nat.reduceAdd, reduceIte, reduceCtorEq, Nat.reduceLeDiff]
    refine cp n20 known_pc (SubL.refl _) ?_
    simp only [go_sem, Tryz.f4, Nat.reduceEqDiff, Nat.reduceBEq, Nat.reduceAdd, reduceIte, reduceCtorEq, Nat.reduceLeDiff]
end Go.Av.Fx
end
