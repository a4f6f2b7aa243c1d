/- Part 27 of the proof. -/
import Derived.Test.YtlagjjpbknpdkaaGreatDoorLc26
import Derived.Test.YtlagjjpbknpdkaaGreatDoorLc20
import Derived.Test.YtlagjjpbknpdkaaGreatDoorLc24
import Derived.Test.YtlagjjpbknpdkaaGreatDoorLc25
import Derived.Test.YtlagjjpbknpdkaaGreatDoorLc14
import Derived.Test.YtlagjjpbknpdkaaGreatDoorRows
import Derived.ProofKit
import Derived.LaidMore
import Derived.OpenShut
import Derived.Deep.Slices
import Derived.Stop.Joined
import Derived.ChangeOld
import Derived.SizedLaws
import Derived.Test.YtlagjjpbknpdkaaGreatDoorTie
import Derived.Test.YtlagjjpbknpdkaaGreatDoorCards
import Derived.Lib.LaidTab
import Derived.Lib.ItoaNum
import Derived.Lay
import Derived.LaidOnce
import Derived.MakeChecks
import Derived.SevenTiedAt
set_option linter.all false
set_option linter.unusedVariables false
set_option linter.unusedSimpArgs false
set_option linter.unusedSectionVars false
section
namespace Go.Av.Fx
open Go Go.Av Go.Av.Tb Go.Proofs
theorem Sub.map {α : Type} (f g : α → AV) (h : ∀ a, Sub (f a) (g a)) (L : List α) (n : Nat) (t : Tail) : Sub (.slice (L.map f) n t) (.slice (L.map g) n .unk) := by
  intro c x hx
  generalize hl : L.map f = l at hx
  cases hx with
  | slice _ _ _ b off cap vs hc hk hr he ht =>
    subst hl
    refine .slice _ n .unk b off cap vs hc (fun j hj => hk j (by simpa using hj)) (fun j y hy => ?_) (fun e => by cases e) (fun k e => by cases e)
    rw [List.getElem?_map] at hy
    cases e : L[j]? with
    | none => rw [e] at hy; cases hy
    | some a =>
      rw [e] at hy; cases hy
      exact h a c _ (hr j (f a) (by rw [List.getElem?_map, e]; rfl))
  | sliceNil _ ht =>
    have : L = [] := by simpa using hl
    subst this
    exact .sliceNil .unk (fun k e => by cases e)
theorem askM : askE lineM true = 0 := by simp [askE, kM_line, kM_poss]
theorem okM : okLine lineM := ⟨by decide, by decide⟩
theorem okN : okLine lineN := ⟨by decide, by decide⟩
theorem q1 : PC Tryz.prog 41 [lineA lineN] (.pure (.tuple [.bool false, .int .i64 0])) := by
  have := Possible_pc lineN okN
  rw [kN_line, kN_poss] at this; exact this
theorem q2 : PC Tryz.prog 22 [lineA lineM] (.pure (.tuple [sll [[0], [1], [2]], .int .i64 0])) := by
  have := Sets_pc lineM okM
  unfold setsA at this
  rw [if_pos askM, kM_sets] at this; exact this
theorem q3 : PC Tryz.prog 21 [lineA lineM] (.pure (.tuple [sl [2, 2, 2], .int .i64 0])) := by
  have := Known_pc lineM okM
  unfold knownA at this
  rw [if_pos askM, show lineM.gives.length = 3 from rfl, kM_words] at this; exact this
theorem q4 : PC Tryz.prog 34 [lineA lineM, .int .i64 1] (.pure (.tuple [spA ⟨78, 94⟩, .int .i64 0])) := by
  have := Flows_pc lineM okM 1
  unfold flowsA at this
  rw [show inB 1 0 lineM.gives.length = true from rfl, if_pos askM, show Int.toNat 1 = 1 from rfl, kM_flows] at this; exact this
theorem q5 : PC Tryz.prog 35 [lineA lineM, .int .i64 0, .int .i64 3] (.pure (.tuple [spA ⟨8, 15⟩, .int .i64 0])) := by
  have := Lost_pc lineM okM 0 3
  unfold lostA at this
  rw [show fineLost lineM 0 3 = true from rfl, if_pos askM, show Int.toNat 0 = 0 from rfl, show Int.toNat 3 = 3 from rfl, kM_lost] at this; exact this
theorem q6 : PC Tryz.prog 30 [lineA lineM, sl [1]] (.pure (.tuple [spA ⟨8, 15⟩, .int .i64 0])) := by
  have := Explains_pc lineM okM [1] (by decide)
  unfold explA at this
  rw [if_pos ⟨kM_line, by decide⟩, if_pos (show isSetB lineM [1] = true by decide +kernel)] at this
  have h := kM_expl
  cases hx : explM lineM [1] with
  | none => rw [hx] at h; cases h
  | some W =>
    rw [hx] at h this
    have h : lostS lineM W 0 3 = ⟨8, 15⟩ := by simpa using h
    simp only [show lineM.gives.length = 3 from rfl, h] at this
    exact this
theorem q7 : PC Tryz.prog 43 [lineA lineM, .int .i64 2] (.pure (.tuple [.int .i64 1, .int .i64 2, .int .i64 0])) := by
  have := Next_pc lineM okM 2
  unfold nextA at this
  rw [show inB 2 0 20 = true from rfl, if_pos askM, kM_next] at this; exact this
theorem q8 : PC Tryz.prog 47 [lineA lineM, sl [1, 2], .int .i64 2] (.pure (.tuple [.bool true, .int .i64 0])) := by
  have := Tells_pc lineM okM [1, 2] (by decide) 2
  unfold tellsA at this
  rw [show fineTells lineM [1, 2] 2 = true by decide +kernel, if_pos askM, kM_tells] at this; exact this
theorem q9 : PC Tryz.prog 48 [lineA lineM, .int .i64 2] (.pure (.tuple [sl [1, 2], .int .i64 0])) := by
  have := Plan_pc lineM okM 2
  unfold planA at this
  rw [show inB 2 0 20 = true from rfl, if_pos askM, kM_plan] at this; exact this
theorem q10 : PC Tryz.prog 53 [lineA lineN] (.pure (.tuple [.int .i64 0, .int .i64 2, .int .i64 0])) := by
  have := Clash_pc lineN okN
  unfold clashA at this
  rw [if_pos kN_line, kN_clash] at this; exact this
theorem q11 : PC Tryz.prog 54 [lineA lineN] (.pure (.tuple [sl [0], .int .i64 0])) := by
  have := Wrong_pc lineN okN
  unfold wrongA at this
  rw [if_pos kN_line, kN_wrong] at this; exact this
theorem q12 : PC Tryz.prog 61 [.str exT] (.pure (.tuple [lineA lineT, .int .i64 0])) := by
  have := Read_pc exT (by decide)
  unfold readA at this
  rw [if_pos (by decide), kT] at this
  simp only [if_pos kT_line] at this
  exact this
theorem q13 : PC Tryz.prog 62 [lineA lineT] (.pure (.str exT)) := by
  have := rPrint_pc lineT (isLine_iff.1 kT_line).plain
  rw [kT_text] at this; exact this
@[go_sem] theorem ne42a : binA T .neq 42 (.agg [.int .i64 78, .int .i64 94]) (.agg [.int .i64 78, .int .i64 94]) = some (.bool false) := rfl
@[go_sem] theorem ne42b : binA T .neq 42 (.agg [.int .i64 8, .int .i64 15]) (.agg [.int .i64 8, .int .i64 15]) = some (.bool false) := rfl
set_option maxRecDepth 100000 in
theorem known_pc : PC Tryz.prog 20 [] (.pure (.bool true)) := by
  refine PC.of_empty (AC.run (E_ok _) mix Tryz.func20 m20 rfl rfl rfl (Nat.le_of_ble_eq_true rfl) ?_) rfl rfl
  simp only [go_sem, Nat.reduceEqDiff, Nat.reduceBEq, Nat.reduceAdd, reduceIte, reduceCtorEq, Nat.reduceLeDiff]
  refine cp n73 N_pc (SubL.refl _) ?_
  simp only [go_sem, Nat.reduceEqDiff, Nat.reduceBEq, Nat.reduceAdd, reduceIte, reduceCtorEq, Nat.reduceLeDiff]
  refine cp n41 q1 (SubL.refl _) ?_
  simp only [go_sem, extractA, Nat.reduceEqDiff, Nat.reduceBEq, Nat.reduceAdd, reduceIte, reduceCtorEq, Nat.reduceLeDiff]
  refine cp n74 M_pc (SubL.refl _) ?_
  simp only [go_sem, Nat.reduceEqDiff, Nat.reduceBEq, Nat.reduceAdd, reduceIte, reduceCtorEq, Nat.reduceLeDiff]
  refine cp n22 q2 (SubL.refl _) ?_
  simp only [go_sem, extractA, Nat.reduceEqDiff, Nat.reduceBEq, Nat.reduceAdd, reduceIte, reduceCtorEq, Nat.reduceLeDiff]
  refine cp n74 M_pc (SubL.refl _) ?_
  simp only [go_sem, Nat.reduceEqDiff, Nat.reduceBEq, Nat.reduceAdd, reduceIte, reduceCtorEq, Nat.reduceLeDiff]
  refine cp n21 q3 (SubL.refl _) ?_
  simp only [go_sem, extractA, Nat.reduceEqDiff, Nat.reduceBEq, Nat.reduceAdd, reduceIte, reduceCtorEq, Nat.reduceLeDiff]
  refine cp n74 M_pc (SubL.refl _) ?_
  simp only [go_sem, Nat.reduceEqDiff, Nat.reduceBEq, Nat.reduceAdd, reduceIte, reduceCtorEq, Nat.reduceLeDiff]
  refine cp n34 q4 (SubL.refl _) ?_
  simp only [go_sem, extractA, put_eq, Nat.reduceEqDiff, Nat.reduceBEq, Nat.reduceAdd, reduceIte, reduceCtorEq, Nat.reduceLeDiff]
  refine cp n74 M_pc (SubL.refl _) ?_
  simp only [go_sem, Nat.reduceEqDiff, Nat.reduceBEq, Nat.reduceAdd, reduceIte, reduceCtorEq, Nat.reduceLeDiff]
  refine cp n35 q5 (SubL.refl _) ?_
  simp only [go_sem, extractA, put_eq, Nat.reduceEqDiff, Nat.reduceBEq, Nat.reduceAdd, reduceIte, reduceCtorEq, Nat.reduceLeDiff]
  refine cp n74 M_pc (SubL.refl _) ?_
  simp only [go_sem, Nat.reduceEqDiff, Nat.reduceBEq, Nat.reduceAdd, reduceIte, reduceCtorEq, Nat.reduceLeDiff]
  refine cp n30 q6 (SubL.cons (Sub.refl _) (SubL.cons (Sub.unk _ _ _) (SubL.refl _))) ?_
  simp only [go_sem, extractA, put_eq, Nat.reduceEqDiff, Nat.reduceBEq, Nat.reduceAdd, reduceIte, reduceCtorEq, Nat.reduceLeDiff]
  refine cp n74 M_pc (SubL.refl _) ?_
  simp only [go_sem, Nat.reduceEqDiff, Nat.reduceBEq, Nat.reduceAdd, reduceIte, reduceCtorEq, Nat.reduceLeDiff]
  refine cp n43 q7 (SubL.refl _) ?_
  simp only [go_sem, extractA, Nat.reduceEqDiff, Nat.reduceBEq, Nat.reduceAdd, reduceIte, reduceCtorEq, Nat.reduceLeDiff]
  refine cp n74 M_pc (SubL.refl _) ?_
  simp only [go_sem, Nat.reduceEqDiff, Nat.reduceBEq, Nat.reduceAdd, reduceIte, reduceCtorEq, Nat.reduceLeDiff]
  refine cp n47 q8 (SubL.cons (Sub.refl _) (SubL.cons (Sub.unk _ _ _) (SubL.refl _))) ?_
  simp only [go_sem, extractA, Nat.reduceEqDiff, Nat.reduceBEq, Nat.reduceAdd, reduceIte, reduceCtorEq, Nat.reduceLeDiff]
  refine cp n74 M_pc (SubL.refl _) ?_
  simp only [go_sem, Nat.reduceEqDiff, Nat.reduceBEq, Nat.reduceAdd, reduceIte, reduceCtorEq, Nat.reduceLeDiff]
  refine cp n48 q9 (SubL.refl _) ?_
  simp only [go_sem, extractA, Nat.reduceEqDiff, Nat.reduceBEq, Nat.reduceAdd, reduceIte, reduceCtorEq, Nat.reduceLeDiff]
  refine cp n73 N_pc (SubL.refl _) ?_
  simp only [go_sem, Nat.reduceEqDiff, Nat.reduceBEq, Nat.reduceAdd, reduceIte, reduceCtorEq, Nat.reduceLeDiff]
  refine cp n53 q10 (SubL.refl _) ?_
  simp only [go_sem, extractA, Nat.reduceEqDiff, Nat.reduceBEq, Nat.reduceAdd, reduceIte, reduceCtorEq, Nat.reduceLeDiff]
  refine cp n73 N_pc (SubL.refl _) ?_
  simp only [go_sem, Nat.reduceEqDiff, Nat.reduceBEq, Nat.reduceAdd, reduceIte, reduceCtorEq, Nat.reduceLeDiff]
  refine cp n54 q11 (SubL.refl _) ?_
  simp only [go_sem, extractA, Nat.reduceEqDiff, Nat.reduceBEq, Nat.reduceAdd, reduceIte, reduceCtorEq, Nat.reduceLeDiff]
  refine cp n61 q12 (SubL.refl _) ?_
  have z0 : ¬ ((0 : Int) ≠ 0) := by decide
  simp only [go_sem, extractA, put_eq, z0, decide_false, Nat.reduceEqDiff, Nat.reduceBEq, Nat.reduceAdd, reduceIte, reduceCtorEq, Nat.reduceLeDiff]
  refine cp n26 (SameSets_pc [[0], [1], [2]] [[0], [1], [2]] (by decide) (by decide) (by decide) (by decide)) (SubL.cons (Sub.refl _) (SubL.cons (Sub.map (fun s => .slice (ints s) s.length .exact) sl (fun s => Sub.unk _ _ _) [[0], [1], [2]] 3 .exact) (SubL.refl _))) ?_
  rw [decide_eq_true rfl]
  simp only [go_sem, un_not, Bool.not_true, Nat.reduceEqDiff, Nat.reduceBEq, Nat.reduceAdd, reduceIte, reduceCtorEq, Nat.reduceLeDiff]
  refine cp n24 (SameWords_pc [2, 2, 2] [2, 2, 2] (by decide) (by decide)) (SubL.cons (Sub.refl _) (SubL.cons (Sub.unk _ _ _) (SubL.refl _))) ?_
  rw [decide_eq_true rfl]
  have z1 : decide ((1 : Int) = 1) = true := rfl
  have z2 : decide ((2 : Int) = 2) = true := rfl
  have z3 : decide ((0 : Int) = 0) = true := rfl
  simp only [go_sem, un_not, Bool.not_true, put_eq, z1, z2, z3, decide_true, Nat.reduceEqDiff, Nat.reduceBEq, Nat.reduceAdd, reduceIte, reduceCtorEq, Nat.reduceLeDiff]
  refine cp n50 (Same_pc [1, 2] [1, 2] (by decide) (by decide)) (SubL.cons (Sub.refl _) (SubL.cons (Sub.unk _ _ _) (SubL.refl _))) ?_
  rw [decide_eq_true rfl]
  simp only [go_sem, un_not, Bool.not_true, put_eq, z1, z2, z3, decide_true, Nat.reduceEqDiff, Nat.reduceBEq, Nat.reduceAdd, reduceIte, reduceCtorEq, Nat.reduceLeDiff]
  refine cp n50 (Same_pc [0] [0] (by decide) (by decide)) (SubL.cons (Sub.refl _) (SubL.cons (Sub.unk _ _ _) (SubL.refl _))) ?_
  rw [decide_eq_true rfl]
  simp only [go_sem, un_not, Bool.not_true, put_eq, z1, z2, z3, decide_true, Nat.reduceEqDiff, Nat.reduceBEq, Nat.reduceAdd, reduceIte, reduceCtorEq, Nat.reduceLeDiff]
  refine cp n62 q13 (SubL.refl _) ?_
  have z4 : binA T .eql 9 (.str exT) (.str ⟨#[108, 105, 110, 101, 32, 49, 32, 49, 32, 48, 10, 115, 116, 114, 101, 116, 99, 104, 32, 48, 10, 101, 110, 100, 32, 48, 53, 49, 10]⟩) = some (.bool true) := (show binA T .eql 9 (.str exT) (.str exT) = some (.bool true) by rw [eqS, decide_eq_true rfl])
  simp only [go_sem, z4, Tryz.f20, Nat.reduceEqDiff, Nat.reduceBEq, Nat.reduceAdd, reduceIte, reduceCtorEq, Nat.reduceLeDiff]
end Go.Av.Fx
end
section
namespace Go.Av.Fx
open Go Go.Av Go.Proofs
open Go.Fw (Sq ent Bd Mat Tells Good)
structure Spn (P : (Nat → Int) → Prop) (g : (Nat → Int) → Int) (sp : Span) : Prop where
  bd : ∀ f, P f → sp.low ≤ g f ∧ g f ≤ sp.high
  lo : ∃ f, P f ∧ g f = sp.low
  hi : ∃ f, P f ∧ g f = sp.high
theorem Spn.imp {P Q : (Nat → Int) → Prop} {g : (Nat → Int) → Int} {a : Span} (h : Spn P g a) (e : ∀ f, P f ↔ Q f) : Spn Q g a := by
  obtain ⟨f1, p1, e1⟩ := h.lo
  obtain ⟨f2, p2, e2⟩ := h.hi
  exact ⟨fun f hf => h.bd f ((e f).2 hf), ⟨f1, (e _).1 p1, e1⟩, ⟨f2, (e _).1 p2, e2⟩⟩
theorem Spn.join {P Q : (Nat → Int) → Prop} {g : (Nat → Int) → Int} {a b : Span} (h : Spn P g a) (h' : Spn Q g b) : Spn (fun f => P f ∨ Q f) g (joinS a b) := by
  obtain ⟨f1, p1, e1⟩ := h.lo
  obtain ⟨f2, p2, e2⟩ := h.hi
  obtain ⟨f3, p3, e3⟩ := h'.lo
  obtain ⟨f4, p4, e4⟩ := h'.hi
  unfold joinS
  refine ⟨?_, ?_, ?_⟩
  · rintro f (hf | hf)
    · have := h.bd f hf
      constructor
      · show (if b.low < a.low then b.low else a.low) ≤ _; split <;> omega
      · show _ ≤ (if b.high > a.high then b.high else a.high); split <;> omega
    · have := h'.bd f hf
      constructor
      · show (if b.low < a.low then b.low else a.low) ≤ _; split <;> omega
      · show _ ≤ (if b.high > a.high then b.high else a.high); split <;> omega
  · by_cases c : b.low < a.low
    · exact ⟨f3, .inr p3, by show _ = if b.low < a.low then b.low else a.low; rw [if_pos c]; exact e3⟩
    · exact ⟨f1, .inl p1, by show _ = if b.low < a.low then b.low else a.low; rw [if_neg c]; exact e1⟩
  · by_cases c : b.high > a.high
    · exact ⟨f4, .inr p4, by show _ = if b.high > a.high then b.high else a.high; rw [if_pos c]; exact e4⟩
    · exact ⟨f2, .inl p2, by show _ = if b.high > a.high then b.high else a.high; rw [if_neg c]; exact e2⟩
theorem Spn.fold {α : Type} {P : α → (Nat → Int) → Prop} {g : (Nat → Int) → Int} {f : α → Span} : ∀ (L : List α) {Q : (Nat → Int) → Prop} {o : Span}, Spn Q g o → (∀ t ∈ L, Spn (P t) g (f t)) →
    Spn (fun x => Q x ∨ ∃ t, t ∈ L ∧ P t x) g (L.foldl (fun o t => joinS o (f t)) o)
  | [], Q, o, h, _ => h.imp fun x => ⟨.inl, fun hx => hx.elim id fun ⟨t, ht, _⟩ => by cases ht⟩
  | t :: L, Q, o, h, hL => by
    refine (Spn.fold L (h.join (hL t List.mem_cons_self)) fun t ht => hL t (List.mem_cons_of_mem _ ht)).imp fun x => ?_
    constructor
    · rintro ((h | h) | ⟨u, hu, h⟩)
      · exact .inl h
      · exact .inr ⟨t, List.mem_cons_self, h⟩
      · exact .inr ⟨u, List.mem_cons_of_mem _ hu, h⟩
    · rintro (h | ⟨u, hu, h⟩)
      · exact .inl (.inl h)
      · rcases List.mem_cons.1 hu with rfl | hu
        · exact .inl (.inr h)
        · exact .inr ⟨u, hu, h⟩
end Go.Av.Fx
end
section
namespace Go.Av.Fx
open Go Go.Av Go.Av.Tb Go.Proofs
end Go.Av.Fx
end
section
namespace Go.Av.Fx
open Go Go.Av Go.Proofs
open Go.Fw (Sq ent Bd Mat Tells Good)
def tapL (t : Truth) : List Int := ((List.range t.losses.length).filter fun i => decide (t.losses.getD i 0 > 0)).map fun (i : Nat) => (i : Int)
theorem mem_tapL {t : Truth} {i : Nat} : (i : Int) ∈ tapL t ↔ t.losses.getD i 0 > 0 := by
  unfold tapL
  simp only [List.mem_map, List.mem_filter, List.mem_range, decide_eq_true_iff]
  constructor
  · rintro ⟨j, ⟨_, hj⟩, e⟩
    rw [show i = j by omega]; exact hj
  · intro h
    refine ⟨i, ⟨?_, h⟩, rfl⟩
    rcases Nat.lt_or_ge i t.losses.length with h' | h'
    · exact h'
    · rw [List.getD_eq_getElem?_getD, List.getElem?_eq_none h'] at h
      simp at h
theorem tapL_has (t : Truth) (i : Nat) : (tapL t).contains (i : Int) = decide (t.losses.getD i 0 > 0) := by
  rw [Bool.eq_iff_iff, List.contains_iff_mem, mem_tapL, decide_eq_true_iff]
theorem tapL_len (t : Truth) : (tapL t).length = tappedT t t.losses.length := by
  unfold tapL
  rw [List.length_map]
  induction t.losses.length with
  | zero => rfl
  | succ n ih =>
    rw [List.range_succ, List.filter_append, List.length_append, ih]
    show _ = (if t.losses.getD n 0 > 0 then tappedT t n + 1 else tappedT t n)
    rw [List.filter_cons, List.filter_nil]
    by_cases g : t.losses.getD n 0 > 0
    · rw [if_pos g, decide_eq_true g, if_pos rfl]; rfl
    · rw [if_neg g, decide_eq_false g, if_neg (by decide)]; rfl
theorem truth_loss2 {l : LLine} {t : Truth} (ht : truthB l t = true) (i : Nat) : t.losses.getD i 0 = 0 ∨ (l.least ≤ t.losses.getD i 0 ∧ t.losses.getD i 0 ≤ l.most) := by
  unfold truthB at ht
  simp only [Bool.and_eq_true, Bool.not_eq_true', List.any_eq_false] at ht
  have h3 := ht.2.2
  rw [List.getD_eq_getElem?_getD]
  cases hx : t.losses[i]? with
  | none => exact .inl rfl
  | some g =>
    have := h3 g (List.mem_of_getElem? hx)
    simp only [Option.getD_some]
    by_cases hg : g = 0
    · exact .inl hg
    · right
      simp [lossBad, hg, inB] at this
      exact this
theorem fits_iff {l : LLine} (h : Lw l) {t : Truth} (ht : truthB l t = true) : fitsT l t = true ↔ ((tapL t).length : Int) ≤ l.taps ∧ Fl l (tapL t) (flowT l t) := by
  have htl := ht
  unfold truthB at htl
  simp only [Bool.and_eq_true, decide_eq_true_iff] at htl
  have hlen : t.losses.length = l.gives.length := by omega
  have hin := inB_iff.1 htl.1
  have hmono : ∀ {b a : Nat}, a ≤ b → tappedT t a ≤ tappedT t b := by
    intro b
    induction b with
    | zero => intro a hab; rw [show a = 0 by omega]; exact Nat.le_refl _
    | succ b ih =>
      intro a hab
      by_cases e : a = b + 1
      · rw [e]; exact Nat.le_refl _
      · refine Nat.le_trans (ih (a := a) (by omega)) ?_
        show _ ≤ (if t.losses.getD b 0 > 0 then tappedT t b + 1 else tappedT t b)
        split <;> omega
  unfold fitsT
  rw [List.all_eq_true, tapL_len, hlen]
  constructor
  · intro hall
    have hp : ∀ p, p ≤ l.gives.length → 0 ≤ flowT l t p ∧ (tappedT t p : Int) ≤ l.taps ∧ wrongT l t p = false := fun p hp => by
      have := hall p (List.mem_range.2 (by omega))
      unfold badT at this
      simp only [Bool.not_eq_true', Bool.or_eq_false_iff, decide_eq_false_iff_not] at this
      exact ⟨by omega, by omega, this.2.2⟩
    refine ⟨(hp _ (Nat.le_refl _)).2.1, fun p hp' => (hp p hp').1, by show t.inflow ≤ 400; omega, fun i hi => ?_, fun c hc => ?_⟩
    · have e : flowT l t i - flowT l t (i + 1) = l.gives.getD i 0 + t.losses.getD i 0 := by
        show flowT l t i - (flowT l t i - (l.gives.getD i 0 + t.losses.getD i 0)) = _; omega
      rw [e]
      have := truth_loss2 ht i
      have hle := h.least
      unfold lowL highL
      rw [tapL_has]
      by_cases g : t.losses.getD i 0 > 0
      · rw [decide_eq_true g, if_pos rfl, if_pos rfl]; omega
      · rw [decide_eq_false g, if_neg (by decide), if_neg (by decide)]; omega
    · have hcc := h.counts c hc
      have hw := (hp c.point.toNat (by omega)).2.2
      unfold wrongT at hw
      rw [List.any_eq_false] at hw
      have := hw c hc
      rw [Bool.and_eq_true, decide_eq_true_iff, Bool.not_eq_true'] at this
      have h2 : inB (flowT l t c.point.toNat) c.low c.high = true := by
        cases hb : inB (flowT l t c.point.toNat) c.low c.high with
        | true => rfl
        | false => exact absurd ⟨by omega, hb⟩ this
      exact inB_iff.1 h2
  · rintro ⟨h1, hf⟩ p hp
    have hp := List.mem_range.1 hp
    unfold badT
    simp only [Bool.not_eq_true', Bool.or_eq_false_iff, decide_eq_false_iff_not]
    have h2 := hf.pos p (by omega)
    have h3 := hmono (a := p) (b := l.gives.length) (by omega)
    refine ⟨by omega, by omega, ?_⟩
    unfold wrongT
    rw [List.any_eq_false]
    intro c hc
    rw [Bool.and_eq_true, decide_eq_true_iff, Bool.not_eq_true']
    rintro ⟨e, hb⟩
    have h4 := hf.cnt c hc
    rw [show c.point.toNat = p by omega] at h4
    rw [inB_iff.2 h4] at hb; cases hb
end Go.Av.Fx
end
section
namespace Go.Av.Fx
open Go Go.Av Go.Proofs
open Go.Fw (Sq ent Bd Mat Tells Good)
end Go.Av.Fx
end
section
namespace Go.Av.Fx
open Go Go.Av Go.Av.Tb Go.Proofs
end Go.Av.Fx
end
section
namespace Go.Av.Fx
open Go Go.Av Go.Av.Tb Go.Proofs
theorem Tapped_pc (t : Truth) (hl : t.losses.length ≤ 1000) : PC Tryz.prog 67 [.agg (trC t)] (.pure (sl (tapL t))) := by
  refine PC.of_frz (AC.run (E_ok _) mix Tryz.func67 m67 rfl rfl rfl (Nat.le_of_ble_eq_true rfl) ?_) (by simp [bndL, AV.bnd]) (by simp [AV.bnd])
  simp only [go_sem, boxA, Nat.reduceEqDiff, Nat.reduceBEq, Nat.reduceAdd, reduceIte, reduceCtorEq, Nat.reduceLeDiff]
  obtain ⟨g, hg⟩ : ∃ g : Nat → List Int, ∀ k, g k = ((List.range k).filter fun i => decide (t.losses.getD i 0 > 0)).map fun (i : Nat) => (i : Int) := ⟨_, fun _ => rfl⟩
  have hgl : ∀ k, (g k).length ≤ k := fun k => by
    rw [hg, List.length_map]
    exact Nat.le_trans (List.length_filter_le _ _) (by simp)
  have hgs : ∀ k, g (k + 1) = g k ++ (if t.losses.getD k 0 > 0 then [(k : Int)] else []) := fun k => by
    rw [hg, hg, List.range_succ, List.filter_append, List.map_append, List.filter_cons, List.filter_nil]
    by_cases h : t.losses.getD k 0 > 0
    · rw [decide_eq_true h, if_pos rfl, if_pos h]; rfl
    · rw [decide_eq_false h, if_neg (by decide), if_neg h]; rfl
  have ht : tapL t = g t.losses.length := (hg _).symm
  have h0 : g 0 = [] := by rw [hg]; rfl
  refine wc_for t.losses.length (fun k => [(1, .ref 0 0), (3, gro (ints (g k))), (4, .int .i64 k)]) (fun k => ⟨[some (.cells (trC t))], (g k).length, toksN (g k).length⟩) (by rw [h0]; rfl) (by rw [h0]; rfl) ?_
  intro k hk I hI
  by_cases h : k < t.losses.length
  · have h' : (k : Int) < t.losses.length := by omega
    have h2 : 0 ≤ (k : Int) ∧ (k : Int) < t.losses.length := by omega
    have h3 : t.losses[k]? = some (t.losses.getD k 0) := by rw [List.getD_eq_getElem?_getD, List.getElem?_eq_getElem h]; rfl
    have h4 : IntKind.i64.wrap ((k : Int) + 1) = (k + 1 : Nat) := wrap64 (by omega)
    have hI := hI h
    rw [hgs] at hI
    have hle := hgl k
    by_cases hp : t.losses.getD k 0 > 0
    · rw [if_pos hp] at hI
      simp only [go_sem, l67_0, builtinA, h', decide_true, h2, ints_get, h3, Option.map_some, hp, Nat.reduceEqDiff, Nat.reduceBEq, Nat.reduceAdd, reduceIte, reduceCtorEq, Nat.reduceLeDiff]
      refine sr_gro22 _ _ _ (by simp) (by omega) ?_
      simp only [go_sem, h4, Nat.reduceEqDiff, Nat.reduceBEq, Nat.reduceAdd, reduceIte, reduceCtorEq, Nat.reduceLeDiff]
      have e : ints (g k ++ [(k : Int)]) = ints (g k) ++ [.int .i64 k] := by simp [ints]
      rw [e, List.length_append] at hI
      exact hI
    · rw [if_neg hp, List.append_nil] at hI
      simp only [go_sem, l67_0, builtinA, h', decide_true, h2, ints_get, h3, Option.map_some, hp, decide_false, h4, Nat.reduceEqDiff, Nat.reduceBEq, Nat.reduceAdd, reduceIte, reduceCtorEq, Nat.reduceLeDiff]
      exact hI
  · have h' : ¬ (k : Int) < t.losses.length := by omega
    have ek : k = t.losses.length := by omega
    subst ek
    simp only [go_sem, l67_0, builtinA, h', decide_false, Tryz.f67, Nat.reduceEqDiff, Nat.reduceBEq, Nat.reduceAdd, reduceIte, reduceCtorEq, Nat.reduceLeDiff]
    rw [ht]
    refine ⟨_, rfl, ?_⟩
    have := gro_frz_same [some (Blk.cells (trC t))] (ints (g t.losses.length))
    rw [ints_len] at this
    exact this
theorem truthB_len {l : LLine} {t : Truth} (ht : truthB l t = true) : t.losses.length = l.gives.length := by
  unfold truthB at ht
  simp only [Bool.and_eq_true, decide_eq_true_iff] at ht
  omega
theorem Flow_pc (l : LLine) (h : Ln l) (t : Truth) (ht : truthB l t = true) (p : Nat) (hp : p ≤ l.gives.length) : PC Tryz.prog 68 [lineA l, .agg (trC t), .int .i64 p] (.pure (.int .i64 (flowT l t p))) := by
  have hlen := truthB_len ht
  have hpts := h.pts
  refine PC.of_empty (AC.run (E_ok _) mix Tryz.func68 m68 rfl rfl rfl (Nat.le_of_ble_eq_true rfl) ?_) (by simp [bndL, AV.bnd]) rfl
  simp only [go_sem, boxA, Nat.reduceEqDiff, Nat.reduceBEq, Nat.reduceAdd, reduceIte, reduceCtorEq, Nat.reduceLeDiff]
  refine wc_for p (fun k => [(2, .int .i64 p), (3, .ref 0 0), (4, .ref 1 0), (7, .int .i64 (flowT l t k)), (8, .int .i64 k)]) (fun _ => ⟨[some (.cells (lineC l)), some (.cells (trC t))], 0, []⟩) rfl rfl ?_
  intro k hk I hI
  by_cases h1 : k < p
  · have h' : (k : Int) < p := by omega
    have h2 : 0 ≤ (k : Int) ∧ (k : Int) < l.gives.length := by omega
    have h2' : 0 ≤ (k : Int) ∧ (k : Int) < t.losses.length := by omega
    have h3 : l.gives[k]? = some (l.gives.getD k 0) := by rw [List.getD_eq_getElem?_getD, List.getElem?_eq_getElem (by omega)]; rfl
    have h3' : t.losses[k]? = some (t.losses.getD k 0) := by rw [List.getD_eq_getElem?_getD, List.getElem?_eq_getElem (by omega)]; rfl
    have h4 : IntKind.i64.wrap ((k : Int) + 1) = (k + 1 : Nat) := wrap64 (by omega)
    have b1 := flowT_bnd h ht k (by omega)
    have b2 := truth_loss h ht k
    have b3 := h.give k
    have w1 : IntKind.i64.wrap (flowT l t k - l.gives.getD k 0) = flowT l t k - l.gives.getD k 0 := wrap64 (by omega)
    have w2 : IntKind.i64.wrap (flowT l t k - l.gives.getD k 0 - t.losses.getD k 0) = flowT l t (k + 1) := by
      rw [wrap64 (by omega)]
      show _ = flowT l t k - (l.gives.getD k 0 + t.losses.getD k 0); omega
    simp only [go_sem, l68_0, h', decide_true, h2, h2', ints_get, h3, h3', Option.map_some, w1, w2, h4, Nat.reduceEqDiff, Nat.reduceBEq, Nat.reduceAdd, reduceIte, reduceCtorEq, Nat.reduceLeDiff]
    exact hI h1
  · have h' : ¬ (k : Int) < p := by omega
    have ek : k = p := by omega
    subst ek
    simp only [go_sem, l68_0, h', decide_false, Tryz.f68, Nat.reduceEqDiff, Nat.reduceBEq, Nat.reduceAdd, reduceIte, reduceCtorEq, Nat.reduceLeDiff]
theorem rTruth_pc (l : LLine) (t : Truth) (hl : okL t.losses.length) : PC Tryz.prog 65 [lineA l, .agg (trC t)] (.pure (.bool (truthB l t))) := by
  refine PC.of_empty (AC.run (E_ok _) mix Tryz.func65 m65 rfl rfl rfl (Nat.le_of_ble_eq_true rfl) ?_) (by simp [bndL, AV.bnd]) rfl
  unfold okL at hl
  simp only [go_sem, boxA, Nat.reduceEqDiff, Nat.reduceBEq, Nat.reduceAdd, reduceIte, reduceCtorEq, Nat.reduceLeDiff]
  refine wc_forP t.losses.length (fun k => ∀ i (h1 : i < k) (h2 : i < t.losses.length), lossBad l t.losses[i] = false) (fun k => [(2, .ref 0 0), (3, .ref 1 0), (5, .int .i64 k)]) (fun _ => ⟨[some (.cells (lineC l)), some (.cells (trC t))], 0, []⟩) (fun i hi => absurd hi (Nat.not_lt_zero _)) rfl rfl ?_
  intro k hk hP I hI
  by_cases h : k < t.losses.length
  · have h' : (k : Int) < t.losses.length := by omega
    have h2 : 0 ≤ (k : Int) ∧ (k : Int) < t.losses.length := by omega
    have h3 : t.losses[k]? = some t.losses[k] := List.getElem?_eq_getElem h
    have h4 : IntKind.i64.wrap ((k : Int) + 1) = (k + 1 : Nat) := wrap64 (by omega)
    have good : lossBad l t.losses[k] = false → ∀ i (h1 : i < k + 1) (h2 : i < t.losses.length), lossBad l t.losses[i] = false := fun hb i hi hi2 => by
      by_cases e : i = k
      · subst e; exact hb
      · exact hP i (by omega) hi2
    by_cases hz : t.losses[k] ≠ 0
    · have hd := decide_eq_true hz
      simp only [go_sem, l65_0, builtinA, h', decide_true, h2, ints_get, h3, Option.map_some, hd, Nat.reduceEqDiff, Nat.reduceBEq, Nat.reduceAdd, reduceIte, reduceCtorEq, Nat.reduceLeDiff]
      refine cp n80 (rin_pc _ _ _) (SubL.refl _) ?_
      cases hb : inB t.losses[k] l.least l.most
      · simp only [go_sem, un_not, Bool.not_false, Tryz.f65, Nat.reduceEqDiff, Nat.reduceBEq, Nat.reduceAdd, reduceIte, reduceCtorEq, Nat.reduceLeDiff]
        have : t.losses.any (lossBad l) = true := by
          rw [List.any_eq_true]; exact ⟨_, List.getElem_mem h, by unfold lossBad; rw [hb, decide_eq_true hz]; rfl⟩
        unfold truthB; rw [this]; simp
      · simp only [go_sem, un_not, Bool.not_true, h4, Nat.reduceEqDiff, Nat.reduceBEq, Nat.reduceAdd, reduceIte, reduceCtorEq, Nat.reduceLeDiff]
        exact hI h (good (by unfold lossBad; rw [hb]; simp))
    · simp only [go_sem, l65_0, builtinA, h', decide_true, h2, ints_get, h3, Option.map_some, hz, decide_false, h4, Nat.reduceEqDiff, Nat.reduceBEq, Nat.reduceAdd, reduceIte, reduceCtorEq, Nat.reduceLeDiff]
      exact hI h (good (by unfold lossBad; rw [decide_eq_false hz]; rfl))
  · have h' : ¬ (k : Int) < t.losses.length := by omega
    have ek : k = t.losses.length := by omega
    subst ek
    have : t.losses.any (lossBad l) = false := by
      rw [List.any_eq_false]
      intro x hx
      obtain ⟨i, hi, rfl⟩ := List.getElem_of_mem hx
      rw [hP i hi hi]; decide
    simp only [go_sem, l65_0, builtinA, h', decide_false, Nat.reduceEqDiff, Nat.reduceBEq, Nat.reduceAdd, reduceIte, reduceCtorEq, Nat.reduceLeDiff]
    refine cp n80 (rin_pc _ _ _) (SubL.refl _) ?_
    unfold truthB
    rw [this]
    cases hb : inB t.inflow 0 400
    · simp only [go_sem, Tryz.f65, Nat.reduceEqDiff, Nat.reduceBEq, Nat.reduceAdd, reduceIte, reduceCtorEq, Nat.reduceLeDiff]
      rfl
    · simp only [go_sem, builtinA, Tryz.f65, Nat.reduceEqDiff, Nat.reduceBEq, Nat.reduceAdd, reduceIte, reduceCtorEq, Nat.reduceLeDiff]
      simp
theorem fits_iff2 {l : LLine} (h : Ln l) {t : Truth} (ht : truthB l t = true) : fitsT l t = true ↔ (∀ p, p < l.gives.length + 1 → 0 ≤ flowT l t p) ∧ (∀ c ∈ l.counts, inB (flowT l t c.point.toNat) c.low c.high = true) ∧ ((tapL t).length : Int) ≤ l.taps := by
  rw [fits_iff h.lw ht]
  have hlen := truthB_len ht
  constructor
  · rintro ⟨h1, h2⟩
    exact ⟨fun p hp => h2.pos p (by omega), fun c hc => inB_iff.2 (h2.cnt c hc), h1⟩
  · rintro ⟨h1, h2, h3⟩
    refine ⟨h3, fun p hp => h1 p (by omega), ?_, fun i hi => ?_, fun c hc => inB_iff.1 (h2 c hc)⟩
    · have htl := ht
      unfold truthB at htl
      simp only [Bool.and_eq_true, decide_eq_true_iff] at htl
      exact (inB_iff.1 htl.1).2
    · have e : flowT l t i - flowT l t (i + 1) = l.gives.getD i 0 + t.losses.getD i 0 := by
        show flowT l t i - (flowT l t i - (l.gives.getD i 0 + t.losses.getD i 0)) = _; omega
      rw [e]
      have := truth_loss2 ht i
      have hle := h.least
      unfold lowL highL
      rw [tapL_has]
      by_cases g : t.losses.getD i 0 > 0
      · rw [decide_eq_true g, if_pos rfl, if_pos rfl]; omega
      · rw [decide_eq_false g, if_neg (by decide), if_neg (by decide)]; omega
theorem rFits_pc (l : LLine) (h : Ln l) (t : Truth) (ht : truthB l t = true) : PC Tryz.prog 72 [lineA l, .agg (trC t)] (.pure (.bool (fitsT l t))) := by
  have hlen := truthB_len ht
  have hpts := h.pts
  have hcts := h.cts
  refine PC.of_empty (AC.run (E_ok _) mix Tryz.func72 m72 rfl rfl rfl (Nat.le_of_ble_eq_true rfl) ?_) (by simp [bndL, AV.bnd]) rfl
  simp only [go_sem, boxA, Nat.reduceEqDiff, Nat.reduceBEq, Nat.reduceAdd, reduceIte, reduceCtorEq, Nat.reduceLeDiff]
  refine wc_forP (l.gives.length + 1) (fun k => ∀ i, i < k → 0 ≤ flowT l t i) (fun k => [(2, .ref 0 0), (3, .ref 1 0), (5, .int .i64 k)]) (fun _ => ⟨[some (.cells (lineC l)), some (.cells (trC t))], 0, []⟩) (fun i hi => absurd hi (Nat.not_lt_zero _)) rfl rfl ?_
  intro k hk hP I hI
  obtain ⟨C, hB⟩ : ∃ C, l72_0 = .seq (.seq (.region [2, 3, 5, 12] r72_2) (.cond (.tmp 12) .skip (.exit 0))) C := ⟨_, rfl⟩
  have hB2 := hB
  rw [hB]
  by_cases h1 : k < l.gives.length + 1
  · have h' : (k : Int) ≤ l.gives.length := by omega
    have h4 : IntKind.i64.wrap ((k : Int) + 1) = (k + 1 : Nat) := wrap64 (by omega)
    simp only [go_sem, builtinA, h', decide_true, Nat.reduceEqDiff, Nat.reduceBEq, Nat.reduceAdd, reduceIte, reduceCtorEq, Nat.reduceLeDiff]
    unfold l72_0 at hB2
    injection hB2 with _ hB2
    subst hB2
    simp only [go_sem, Nat.reduceEqDiff, Nat.reduceBEq, Nat.reduceAdd, reduceIte, reduceCtorEq, Nat.reduceLeDiff]
    refine cp n68 (Flow_pc l h t ht k (by omega)) (SubL.refl _) ?_
    by_cases hz : flowT l t k < 0
    · simp only [go_sem, hz, decide_true, Tryz.f72, Nat.reduceEqDiff, Nat.reduceBEq, Nat.reduceAdd, reduceIte, reduceCtorEq, Nat.reduceLeDiff]
      have : fitsT l t = false := by
        cases hf : fitsT l t
        · rfl
        · have := ((fits_iff2 h ht).1 hf).1 k h1; omega
      rw [this]
    · simp only [go_sem, hz, decide_false, h4, Nat.reduceEqDiff, Nat.reduceBEq, Nat.reduceAdd, reduceIte, reduceCtorEq, Nat.reduceLeDiff]
      exact hI h1 fun i hi => by
        by_cases e : i = k
        · subst e; omega
        · exact hP i (by omega)
  have h' : ¬ (k : Int) ≤ l.gives.length := by omega
  have ek : k = l.gives.length + 1 := by omega
  subst ek
  clear hI h1 hk
  simp only [go_sem, builtinA, h', decide_false, Nat.reduceEqDiff, Nat.reduceBEq, Nat.reduceAdd, reduceIte, reduceCtorEq, Nat.reduceLeDiff]
  clear h' hB hB2
  refine wc_forGP l.counts.length (fun k => ∀ i (h1 : i < k) (h2 : i < l.counts.length), inB (flowT l t l.counts[i].point.toNat) l.counts[i].low l.counts[i].high = true) (fun k => [(2, .ref 0 0), (3, .ref 1 0), (6, .int .i64 k)]) (fun _ => ⟨[some (.cells (lineC l)), some (.cells (trC t))], 0, []⟩) (fun i hi => absurd hi (Nat.not_lt_zero _)) rfl rfl (fun k hk => ?_) ?_
  · refine ⟨Nat.zero_le _, Nat.zero_le _, by simp [bndTS, AV.bnd], fun i B hB => ?_, fun t ht => by cases ht⟩
    match i, hB with
    | 0, hB => simp at hB; subst hB; simp [Blk.bnd, bndL, AV.bnd]
    | 1, hB => simp at hB; subst hB; simp [Blk.bnd, bndL, AV.bnd]
    | i + 2, hB => simp at hB
  intro k hk hQ I hI
  obtain ⟨C, hB⟩ : ∃ C, l72_1 = .seq (.seq (.region [2, 3, 6, 24] r72_7) (.cond (.tmp 24) .skip (.exit 2))) C := ⟨_, rfl⟩
  have hB2 := hB
  rw [hB]
  by_cases h1 : k < l.counts.length
  · have h' : (k : Int) < l.counts.length := by omega
    have h2 : 0 ≤ (k : Int) ∧ (k : Int) < l.counts.length := by omega
    have h3 : k * 3 + 3 ≤ (cnts l.counts).length := by rw [cnts_len]; omega
    have h5 := cnts_at l.counts k h1
    have h4 : IntKind.i64.wrap ((k : Int) + 1) = (k + 1 : Nat) := wrap64 (by omega)
    have hc := h.counts _ (List.getElem_mem h1)
    have hF := Flow_pc l h t ht l.counts[k].point.toNat (by omega)
    rw [Int.toNat_of_nonneg hc.1.1] at hF
    simp only [go_sem, builtinA, h', decide_true, Nat.reduceEqDiff, Nat.reduceBEq, Nat.reduceAdd, reduceIte, reduceCtorEq, Nat.reduceLeDiff]
    unfold l72_1 at hB2
    injection hB2 with _ hB2
    subst hB2
    simp only [go_sem, h2, h3, h5, put_eq, Nat.reduceEqDiff, Nat.reduceBEq, Nat.reduceAdd, reduceIte, reduceCtorEq, Nat.reduceLeDiff]
    refine qp n68 hF (SubL.refl _) ?_
    simp only [go_sem, Nat.reduceEqDiff, Nat.reduceBEq, Nat.reduceAdd, reduceIte, reduceCtorEq, Nat.reduceLeDiff]
    refine cp n80 (rin_pc _ _ _) (SubL.refl _) ?_
    cases hz : inB (flowT l t l.counts[k].point.toNat) l.counts[k].low l.counts[k].high
    · simp only [go_sem, un_not, Bool.not_false, Tryz.f72, Nat.reduceEqDiff, Nat.reduceBEq, Nat.reduceAdd, reduceIte, reduceCtorEq, Nat.reduceLeDiff]
      have : fitsT l t = false := by
        cases hf : fitsT l t
        · rfl
        · have := ((fits_iff2 h ht).1 hf).2.1 _ (List.getElem_mem h1); rw [hz] at this; cases this
      rw [this]
    · simp only [go_sem, un_not, Bool.not_true, h4, Nat.reduceEqDiff, Nat.reduceBEq, Nat.reduceAdd, reduceIte, reduceCtorEq, Nat.reduceLeDiff]
      exact hI h1 (fun i hi hi2 => by
        by_cases e : i = k
        · subst e; exact hz
        · exact hQ i (by omega) hi2) [_]
  have h' : ¬ (k : Int) < l.counts.length := by omega
  have ek : k = l.counts.length := by omega
  subst ek
  simp only [go_sem, builtinA, h', decide_false, Nat.reduceEqDiff, Nat.reduceBEq, Nat.reduceAdd, reduceIte, reduceCtorEq, Nat.reduceLeDiff]
  refine qp n67 (Tapped_pc t (by omega)) (SubL.refl _) ?_
  have e : fitsT l t = decide (((tapL t).length : Int) ≤ l.taps) := by
    rw [Bool.eq_iff_iff, decide_eq_true_iff, fits_iff2 h ht]
    refine ⟨fun x => x.2.2, fun x => ⟨fun p hp => hP p hp, fun c hc => ?_, x⟩⟩
    obtain ⟨i, hi, rfl⟩ := List.getElem_of_mem hc
    exact hQ i hi hi
  simp only [go_sem, builtinA, Tryz.f72, Nat.reduceEqDiff, Nat.reduceBEq, Nat.reduceAdd, reduceIte, reduceCtorEq, Nat.reduceLeDiff]
  rw [e]
end Go.Av.Fx
end
section
namespace Go.Av.Fx
open Go Go.Av Go.Av.Tb Go.Proofs
theorem ne4' (a b : Bool) : binA T .neq 4 (.bool a) (.bool b) = some (.bool (a ^^ b)) := by
  cases a <;> cases b <;> rfl
theorem eq4' (a : Bool) : binA T .eql 4 (.bool a) (.bool a) = some (.bool true) := by
  cases a <;> rfl
set_option maxHeartbeats 2000000 in
theorem LeakFits_pc (l : LLine) (ok : okLine l) (t : Truth) (hl : okL t.losses.length) : PC Tryz.prog 18 [lineA l, .agg (trC t)] (.pure (.bool true)) := by
  refine PC.of_empty (AC.run (E_ok _) mix Tryz.func18 m18 rfl rfl rfl (Nat.le_of_ble_eq_true rfl) ?_) (by simp [bndL, AV.bnd]) rfl
  simp only [go_sem, boxA, Nat.reduceEqDiff, Nat.reduceBEq, Nat.reduceAdd, reduceIte, reduceCtorEq, Nat.reduceLeDiff]
  refine cp n19 (short_pc l) (SubL.refl _) ?_
  cases hsh : (decide ((l.gives.length : Int) ≤ 7) && decide ((l.counts.length : Int) ≤ 10))
  · simp only [go_sem, un_not, Bool.not_false, Nat.reduceEqDiff, Nat.reduceBEq, Nat.reduceAdd, reduceIte, reduceCtorEq, Nat.reduceLeDiff]
    refine cp n20 known_pc (SubL.refl _) ?_
    simp only [go_sem, Tryz.f18, Nat.reduceEqDiff, Nat.reduceBEq, Nat.reduceAdd, reduceIte, reduceCtorEq, Nat.reduceLeDiff]
  by_cases h8 : (t.losses.length : Int) > 8
  · simp only [go_sem, un_not, Bool.not_true, builtinA, h8, decide_true, Nat.reduceEqDiff, Nat.reduceBEq, Nat.reduceAdd, reduceIte, reduceCtorEq, Nat.reduceLeDiff]
    refine cp n20 known_pc (SubL.refl _) ?_
    simp only [go_sem, Tryz.f18, Nat.reduceEqDiff, Nat.reduceBEq, Nat.reduceAdd, reduceIte, reduceCtorEq, Nat.reduceLeDiff]
  simp only [go_sem, un_not, Bool.not_true, builtinA, h8, decide_false, Nat.reduceEqDiff, Nat.reduceBEq, Nat.reduceAdd, reduceIte, reduceCtorEq, Nat.reduceLeDiff]
  have hC := check_pc l ok
  have hF := Fits_pc l ok t hl
  have hP := Possible_pc l ok
  have hL := rLine_pc l ok
  unfold fitsA at hF
  refine cp n70 hC (SubL.refl _) ?_
  simp only [go_sem, Nat.reduceEqDiff, Nat.reduceBEq, Nat.reduceAdd, reduceIte, reduceCtorEq, Nat.reduceLeDiff]
  refine cp n66 hF (SubL.refl _) ?_
  have z0 : decide ((0 : Int) = 0) = true := rfl
  have z2 : decide ((2 : Int) = 2) = true := rfl
  have y0 : ¬ ((0 : Int) ≠ 0) := by decide
  cases h : isLineB l
  · rw [h] at hP hL
    simp only [go_sem, extractA, Nat.reduceEqDiff, Nat.reduceBEq, Nat.reduceAdd, reduceIte, reduceCtorEq, Nat.reduceLeDiff]
    refine cp n41 hP (SubL.refl _) ?_
    simp only [go_sem, extractA, Nat.reduceEqDiff, Nat.reduceBEq, Nat.reduceAdd, reduceIte, reduceCtorEq, Nat.reduceLeDiff]
    refine cp n28 hL (SubL.refl _) ?_
    simp only [go_sem, un_not, Bool.not_false, z2, decide_true, Bool.false_and, Nat.reduceEqDiff, Nat.reduceBEq, Nat.reduceAdd, reduceIte, reduceCtorEq, Nat.reduceLeDiff]
    refine cp n20 known_pc (SubL.refl _) ?_
    simp only [go_sem, Tryz.f18, Nat.reduceEqDiff, Nat.reduceBEq, Nat.reduceAdd, reduceIte, reduceCtorEq, Nat.reduceLeDiff]
  have hln := isLine_iff.1 h
  have hw := hln.lw
  rw [h] at hP hL
  have hR := rPoss_pc l hw
  rw [rPoss_eq hw] at hR
  have hT := rTruth_pc l t hl
  have e0 : (possB l ^^ possB l) = false := by cases possB l <;> rfl
  cases ht : truthB l t
  · rw [ht] at hT
    simp only [go_sem, extractA, Nat.reduceEqDiff, Nat.reduceBEq, Nat.reduceAdd, reduceIte, reduceCtorEq, Nat.reduceLeDiff]
    refine cp n41 hP (SubL.refl _) ?_
    simp only [go_sem, extractA, Bool.true_and, Nat.reduceEqDiff, Nat.reduceBEq, Nat.reduceAdd, reduceIte, reduceCtorEq, Nat.reduceLeDiff]
    refine cp n28 hL (SubL.refl _) ?_
    simp only [go_sem, un_not, Bool.not_true, y0, decide_false, Nat.reduceEqDiff, Nat.reduceBEq, Nat.reduceAdd, reduceIte, reduceCtorEq, Nat.reduceLeDiff]
    refine cp n71 hR (SubL.refl _) ?_
    simp only [go_sem, ne4', e0, Nat.reduceEqDiff, Nat.reduceBEq, Nat.reduceAdd, reduceIte, reduceCtorEq, Nat.reduceLeDiff]
    refine cp n65 hT (SubL.refl _) ?_
    simp only [go_sem, un_not, Bool.not_false, z2, decide_true, Nat.reduceEqDiff, Nat.reduceBEq, Nat.reduceAdd, reduceIte, reduceCtorEq, Nat.reduceLeDiff]
    refine cp n20 known_pc (SubL.refl _) ?_
    simp only [go_sem, Tryz.f18, Nat.reduceEqDiff, Nat.reduceBEq, Nat.reduceAdd, reduceIte, reduceCtorEq, Nat.reduceLeDiff]
  · rw [ht] at hT
    simp only [go_sem, extractA, Nat.reduceEqDiff, Nat.reduceBEq, Nat.reduceAdd, reduceIte, reduceCtorEq, Nat.reduceLeDiff]
    refine cp n41 hP (SubL.refl _) ?_
    simp only [go_sem, extractA, Bool.true_and, Nat.reduceEqDiff, Nat.reduceBEq, Nat.reduceAdd, reduceIte, reduceCtorEq, Nat.reduceLeDiff]
    refine cp n28 hL (SubL.refl _) ?_
    simp only [go_sem, un_not, Bool.not_true, y0, decide_false, Nat.reduceEqDiff, Nat.reduceBEq, Nat.reduceAdd, reduceIte, reduceCtorEq, Nat.reduceLeDiff]
    refine cp n71 hR (SubL.refl _) ?_
    simp only [go_sem, ne4', e0, Nat.reduceEqDiff, Nat.reduceBEq, Nat.reduceAdd, reduceIte, reduceCtorEq, Nat.reduceLeDiff]
    refine cp n65 hT (SubL.refl _) ?_
    simp only [go_sem, un_not, Bool.not_true, z0, decide_true, Nat.reduceEqDiff, Nat.reduceBEq, Nat.reduceAdd, reduceIte, reduceCtorEq, Nat.reduceLeDiff]
    refine cp n72 (rFits_pc l hln t ht) (SubL.refl _) ?_
    simp only [go_sem, eq4', Nat.reduceEqDiff, Nat.reduceBEq, Nat.reduceAdd, reduceIte, reduceCtorEq, Nat.reduceLeDiff]
    refine cp n20 known_pc (SubL.refl _) ?_
    simp only [go_sem, Tryz.f18, Nat.reduceEqDiff, Nat.reduceBEq, Nat.reduceAdd, reduceIte, reduceCtorEq, Nat.reduceLeDiff]
end Go.Av.Fx
end
section
set_option maxRecDepth 100000
namespace Go.Av.Fx
open Go Go.Av Go.Av.Tb Go.Proofs Go.ChangeShapes Go.WideShapes Go.RowKit
def cW (W : World) : Cx :=
  { K := fun b o => W.cell? ⟨b, o, none⟩, μ := fun _ => none, τ := fun _ => none, X := fun _ _ => none
    XO := fun b => match W.heap[b]? with
      | some (.cells _ _ _) => none
      | o => o
    sz := W.heap.size, FZ := ⟨fun _ _ => false, W⟩ }
structure TabOk (W : World) : Prop where
  tab : ∀ i, i < 20 → W.cell? ⟨tabB, i, none⟩ = some (tabV i)
  tsh : ∃ t, W.shape? tabB = some (t, 20)
theorem cW_st {W : World} (h : TabOk W) : StRel (cW W) St.empty W where
  sz := Nat.le_refl _
  tab := h.tab
  tsh := h.tsh
  fr := Frm.refl W
  K := fun _ _ _ e => e
  X := fun _ _ _ e => by cases e
  XO := fun b ob e => by
    simp only [cW] at e
    split at e
    · cases e
    · rename_i hn
      exact ⟨e, fun cs t f he => hn cs t f (by rw [e, he])⟩
  F := fun _ _ e => by cases e
  dom := fun _ _ e => by cases e
  tdom := fun _ _ e => by cases e
  blk := fun i B e => by simp [St.empty] at e
  inj := fun i j Bi Bj n e => by simp [St.empty] at e
  tok := fun k hk => by cases hk
  tinj := fun k k' b lo hi lo' hi' hk => by cases hk
  tblk := fun k i b lo hi B hk => by cases hk
structure Keep (W W' : World) : Prop where
  os : W'.os = W.os
  out : W'.output = W.output
  block : ∀ k, k < W.heap.size → W'.heap[k]? = W.heap[k]?
theorem keep_of {W W' : World} {c' : Cx} {S' : St} (hle : (cW W).le c') (h : StRel c' S' W') : Keep W W' := by
  have hfr : Frm W W' := by have := h.fr; rw [hle.FZ] at this; exact this
  refine ⟨hfr.os, hfr.out, fun k hk => ?_⟩
  have hob : W.heap[k]? = some W.heap[k] := Array.getElem?_eq_getElem hk
  rw [hob]
  cases ho : W.heap[k] with
  | cells cs t fr =>
    rw [ho] at hob
    obtain ⟨cs', e1, e2⟩ := hfr.blk k cs t fr hob
    rw [e1]
    congr 2
    apply Array.ext
    · exact e2
    · intro j h1 h2
      have hc : W.cell? ⟨k, j, none⟩ = some cs[j] := by
        unfold World.cell?
        simp [hob, h2]
      have := h.K k j _ (hle.K k j _ hc)
      unfold World.cell? at this
      simp [e1, h1] at this
      exact this
  | _ =>
    rw [ho] at hob
    exact (h.XO k _ (by rw [hle.XO]; simp only [cW, hob])).1
theorem Keep.keptBut {W W' : World} (h : Keep W W') (may : MemPlace → Prop) : W.keptBut W' may := by
  refine ⟨h.os, h.out, fun i hi => ?_⟩
  rw [h.block i hi, Array.getElem?_eq_getElem hi]
  cases W.heap[i] with
  | cells c t fr => exact ⟨rfl, rfl, rfl, fun _ _ => rfl⟩
  | map es clock => exact .inr ⟨rfl, rfl⟩
  | _ => rfl
theorem Keep.same {W W' : World} (h : Keep W W') {p : MemPlace} (hp : p.block < W.heap.size) : W.sameAt W' p := by
  cases p with
  | cell b o => exact World.cell?_of_block (w := W) (h.block b hp)
  | map b => exact h.block b hp
theorem Keep.trod {H : Type} {enc : TypeId × Value → H} {P : Program} {t : TypeId} (hl : laidOutB P = true) (hr : P.readableRec t = true) (hrow : t < P.types.size) {W W' : World} {v : Value} {d : DataW H} {ps : List MemPlace}
    (h : DataW.Trod enc P W 0 (fun _ => true) true t v d ps) (hb : Keep W W') (hlt : ∀ x ∈ ps, x.block < W.heap.size) :
    DataW.Trod enc P W' 0 (fun b => decide (b < W.heap.size)) true t v d ps :=
  WideElems.Trod_stays hl hr hrow h (fun x hx => hb.same (hlt x hx)) (fun x hx => by simpa using hlt x hx)
theorem law_calls {f : FuncId} {args : List AV} {W : World} {vs : List Value} (h : PC Tryz.prog f args (.pure (.bool true))) (ht : TabOk W) (hl : LRel (cW W) args vs) :
    Calls Tryz.prog f vs.toArray W fun e W' => e = .returned (.bool true) ∧ Keep W W' := by
  refine (h (cW W) St.empty W vs (cW_st ht) hl).mono ?_
  rintro e W' ⟨x, rfl, c', hle, _, _, hst, hv⟩
  refine ⟨?_, keep_of hle hst⟩
  cases hv; rfl
theorem cells_of {W : World} {b off : Nat} {l : List AV} {n cap : Nat} (hc : n ≤ cap) (h : ∀ j x, l[j]? = some x → ∃ v, W.cell? ⟨b, off + j, none⟩ = some v ∧ VRel (cW W) x v) : VRel (cW W) (.slice l n .unk) (.slice (some ⟨b, off, none⟩) n cap) := by
  have get : ∀ j (hj : j < l.length), ∃ v, W.cell? ⟨b, off + j, none⟩ = some v ∧ VRel (cW W) l[j] v := fun j hj => h j _ (List.getElem?_eq_getElem hj)
  refine .slice l n .unk b off cap (fun j => (W.cell? ⟨b, off + j, none⟩).getD default) hc (fun j hj => ?_) (fun j x hx => ?_) (fun e => by cases e) (fun k e => by cases e)
  · obtain ⟨v, h1, h2⟩ := get j hj
    show W.cell? _ = some ((W.cell? _).getD default)
    rw [h1]; rfl
  · obtain ⟨v, h1, h2⟩ := h j x hx
    rw [h1]; exact h2
theorem add_at (b off i : Nat) : (⟨b, off, none⟩ : Addr).add i = ⟨b, off + i, none⟩ := add_plain b off i
theorem has_spot {W : World} {base : Nat} {t e : TypeId} {a : Addr} {len cap : Nat} (ht : Tryz.prog.underlying t = some (.slice e)) (h : Cell.okWide Tryz.prog W .any base t (.slice (some a) len cap)) : a.spot = none := by
  simp only [Cell.okWide, ht, Cell.ok] at h
  exact h.2.2.2.1
section
variable {H : Type} {enc : TypeId × Value → H} {W : World} {base : Nat} {fuel : Nat} {x : DataW H × List MemPlace}
theorem av_ints {v : Value} (h : DataW.trod enc Tryz.prog W 0 (fun _ => true) true fuel 22 [v] = some x) (hw : ∀ n ∈ x.1.weights Tryz.prog 22, n ≤ reachBytes) (hok : Cell.okWide Tryz.prog W .any base 22 v) : ∃ l : List Int, VRel (cW W) (sl l) v ∧ okL l.length := by
  rcases open_ints Tryz.underlying22 Tryz.underlying3 (by kernel_rfl) h with ⟨hcs, _⟩ | ⟨a, len, cap, zs, hcs, _, hl, hm, hz, hx, hcell, _⟩
  · cases hcs
    exact ⟨[], .sliceNil .unk (fun k e => by cases e), Nat.zero_lt_succ _⟩
  · cases hcs
    have hsp := has_spot Tryz.underlying22 hok
    obtain ⟨b, off, spot⟩ := a
    simp only at hsp
    subst hsp
    have hz : zs.length = cap := by simpa using hz
    have hlen : (zs.take len).length = len := by rw [List.length_take]; omega
    have hsize : len < 9223372036854775807 := by
      subst hx
      have h8 : Tryz.prog.bytesOf 3 = 8 := by kernel_rfl
      have := hw (((lits .i64 (zs.take len) : List (DataW H)).length + (lits .i64 (zs.drop len) : List (DataW H)).length) * 8) (by
        simp only [DataW.weights, Tryz.underlying22, h8]
        exact List.mem_cons_self)
      have e1 : (lits .i64 (zs.take len) : List (DataW H)).length = len := by simp [lits]; omega
      rw [e1] at this
      unfold reachBytes at this
      omega
    refine ⟨zs.take len, ?_, by rw [hlen]; exact hsize⟩
    show VRel (cW W) (.slice (ints (zs.take len)) (zs.take len).length .unk) _
    rw [hlen]
    refine cells_of hl fun j y hy => ?_
    rw [ints_get] at hy
    have hj : j < (zs.take len).length := by
      rcases Nat.lt_or_ge j (zs.take len).length with h' | h'
      · exact h'
      · rw [List.getElem?_eq_none h'] at hy; cases hy
    rw [List.getElem?_eq_getElem hj] at hy
    cases hy
    have hj2 : j < zs.length := by omega
    have hc := hcell j hj2
    rw [add_at] at hc
    refine ⟨_, hc, ?_⟩
    rw [List.getElem_take, List.getD_eq_getElem?_getD, List.getElem?_eq_getElem hj2]
    exact .int _ _
theorem av_int {v : Value} (h : DataW.trod enc Tryz.prog W 0 (fun _ => true) true fuel 3 [v] = some x) : ∃ n : Int, v = .int .i64 n ∧ (Lit.int .i64 n).wf = true := by
  obtain ⟨n, hcs, _, hw⟩ := DataW.trod_int Tryz.underlying3 h
  cases hcs
  exact ⟨n, rfl, hw⟩
theorem av_cnt {cs : List Value} (h : DataW.trod enc Tryz.prog W 0 (fun _ => true) true fuel 82 cs = some x) : ∃ c : Cnt, cs = [.int .i64 c.point, .int .i64 c.low, .int .i64 c.high] := by
  obtain ⟨xs, n, _, _, hl, hlen, hf⟩ := DataW.trod_struct Tryz.underlying82 h
  have hc : Tryz.prog.cellsOf 82 = 3 := by kernel_rfl
  have hc3 : Tryz.prog.cellsOf 3 = 1 := by kernel_rfl
  rw [hc] at hl
  match cs, hl with
  | [a, b, d], _ =>
    match xs, hlen with
    | [y0, y1, y2], _ =>
      have h0 : DataW.trod enc Tryz.prog W 0 (fun _ => true) true n 3 (([a, b, d].drop 0).take (Tryz.prog.cellsOf 3)) = some y0 := hf 0 _ rfl
      have h1 : DataW.trod enc Tryz.prog W 0 (fun _ => true) true n 3 (([a, b, d].drop 1).take (Tryz.prog.cellsOf 3)) = some y1 := hf 1 _ rfl
      have h2 : DataW.trod enc Tryz.prog W 0 (fun _ => true) true n 3 (([a, b, d].drop 2).take (Tryz.prog.cellsOf 3)) = some y2 := hf 2 _ rfl
      rw [hc3] at h0 h1 h2
      obtain ⟨p, rfl, _⟩ := av_int h0
      obtain ⟨q, rfl, _⟩ := av_int h1
      obtain ⟨r, rfl, _⟩ := av_int h2
      exact ⟨⟨p, q, r⟩, rfl⟩
theorem cnts_get : ∀ (l : List Cnt) (j : Nat) (y : AV), (cnts l)[j]? = some y → ∃ (i q : Nat) (hi : i < l.length), j = i * 3 + q ∧ q < 3 ∧ (cntC l[i])[q]? = some y
  | [], j, y, h => by simp [cnts] at h
  | c :: l, j, y, h => by
    have e : cnts (c :: l) = cntC c ++ cnts l := by simp [cnts]
    rw [e] at h
    by_cases hj : j < 3
    · rw [List.getElem?_append_left (by simpa using hj)] at h
      exact ⟨0, j, by simp, by omega, hj, h⟩
    · rw [List.getElem?_append_right (by simp; omega)] at h
      obtain ⟨i, q, hi, e1, e2, e3⟩ := cnts_get l _ y h
      refine ⟨i + 1, q, by simpa using hi, ?_, e2, e3⟩
      simp at e1; omega
theorem av_cnts {v : Value} (h : DataW.trod enc Tryz.prog W 0 (fun _ => true) true fuel 23 [v] = some x) (hw : ∀ n ∈ x.1.weights Tryz.prog 23, n ≤ reachBytes) (hok : Cell.okWide Tryz.prog W .any base 23 v) : ∃ l : List Cnt, VRel (cW W) (.slice (cnts l) l.length .unk) v ∧ okL l.length := by
  rcases Go.Deep.open_slice Tryz.underlying23 h with ⟨hcs, _⟩ | ⟨a, len, cap, m, n, D, Pl, hcs, _, hl, hm, hmm, hxx, hx⟩
  · cases hcs
    exact ⟨[], .sliceNil .unk (fun k e => by cases e), Nat.zero_lt_succ _⟩
  · cases hcs
    have hsp := has_spot Tryz.underlying23 hok
    obtain ⟨b, off, spot⟩ := a
    simp only at hsp
    subst hsp
    have hmc : m = cap := by simpa using hmm
    have hc : Tryz.prog.cellsOf 82 = 3 := by kernel_rfl
    rw [hc] at hx
    have each : ∀ i, i < len → ∃ c : Cnt, ∀ (q : Nat) (y : AV), (cntC c)[q]? = some y → ∃ u, W.cell? ⟨b, off + (i * 3 + q), none⟩ = some u ∧ VRel (cW W) y u := by
      intro i hi
      obtain ⟨cs', h1, h2⟩ := hx i (by omega)
      obtain ⟨c, rfl⟩ := av_cnt h2
      obtain ⟨_, _, hcell⟩ := World.cells?_some h1
      refine ⟨c, fun q y hy => ?_⟩
      have hq : q < 3 := by
        rcases Nat.lt_or_ge q 3 with h' | h'
        · exact h'
        · rw [List.getElem?_eq_none (by simpa using h')] at hy; cases hy
      have hcq := hcell q (by simpa using hq)
      rw [add_at, add_at, Nat.add_assoc] at hcq
      match q, hq, hy with
      | 0, _, hy => cases hy; exact ⟨_, hcq, .int _ _⟩
      | 1, _, hy => cases hy; exact ⟨_, hcq, .int _ _⟩
      | 2, _, hy => cases hy; exact ⟨_, hcq, .int _ _⟩
    obtain ⟨F, hF⟩ : ∃ F : Nat → Cnt, ∀ i, i < len → ∀ (q : Nat) (y : AV), (cntC (F i))[q]? = some y → ∃ u, W.cell? ⟨b, off + (i * 3 + q), none⟩ = some u ∧ VRel (cW W) y u :=
      ⟨fun i => if hi : i < len then (each i hi).choose else ⟨0, 0, 0⟩, fun i hi => by
        show ∀ (q : Nat) (y : AV), (cntC (if hi : i < len then (each i hi).choose else ⟨0, 0, 0⟩))[q]? = some y → _
        rw [dif_pos hi]; exact (each i hi).choose_spec⟩
    have hlen : ((List.range len).map F).length = len := by simp
    have hsize : len < 9223372036854775807 := by
      subst hxx
      have h8 : Tryz.prog.bytesOf 82 = 24 := by kernel_rfl
      have := hw ((((List.range len).map D).length + ((List.range (m - len)).map fun j => D (len + j)).length) * 24) (by
        simp only [DataW.weights, Tryz.underlying23, h8]
        exact List.mem_cons_self)
      rw [List.length_map, List.length_range] at this
      unfold reachBytes at this
      omega
    refine ⟨(List.range len).map F, ?_, by rw [hlen]; exact hsize⟩
    rw [hlen]
    refine cells_of hl fun j y hy => ?_
    obtain ⟨i, q, hi, rfl, _, e3⟩ := cnts_get _ j y hy
    rw [hlen] at hi
    have e4 : ((List.range len).map F)[i] = F i := by simp
    rw [e4] at e3
    exact hF i hi q y e3
end
theorem av_line {H : Type} {enc : TypeId × Value → H} {W : World} {base : Nat} {v : Value} {d : DataW H} {ps : List MemPlace} (h : DataW.Trod enc Tryz.prog W 0 (fun _ => true) true 25 v d ps) (hw : ∀ n ∈ d.weights Tryz.prog 25, n ≤ reachBytes) (hok : Value.okWide Tryz.prog W .any base 25 v) :
    ∃ l : LLine, VRel (cW W) (lineA l) v ∧ okLine l := by
  obtain ⟨fuel, h⟩ := h
  simp only [Value.okWide, Tryz.underlying25] at hok
  obtain ⟨cs, rfl, hsz, ts, hts, _, hrow⟩ := hok
  have hc : Tryz.prog.cellsOf 25 = 5 := by kernel_rfl
  rw [hc] at hsz
  obtain ⟨c0, c1, c2, c3, c4, rfl⟩ : ∃ c0 c1 c2 c3 c4, cs = #[c0, c1, c2, c3, c4] := by
    obtain ⟨l⟩ := cs
    match l, hsz with
    | [c0, c1, c2, c3, c4], _ => exact ⟨c0, c1, c2, c3, c4, rfl⟩
  have hts' : Go.Program.cellTypes Tryz.prog Tryz.prog.depth 25 = some [22, 3, 3, 3, 23] := by kernel_rfl
  rw [hts'] at hts
  cases hts
  have k0 : Cell.okWide Tryz.prog W .any base 22 c0 := by
    obtain ⟨u, e, hu⟩ := hrow 0 c0 rfl
    cases e; exact hu
  have k4 : Cell.okWide Tryz.prog W .any base 23 c4 := by
    obtain ⟨u, e, hu⟩ := hrow 4 c4 rfl
    cases e; exact hu
  obtain ⟨xs, n, _, hd, hl, hlen, hf⟩ := DataW.trod_struct Tryz.underlying25 h
  have hc3 : Tryz.prog.cellsOf 3 = 1 := by kernel_rfl
  have hc22 : Tryz.prog.cellsOf 22 = 1 := by kernel_rfl
  have hc23 : Tryz.prog.cellsOf 23 = 1 := by kernel_rfl
  match xs, hlen with
  | [y0, y1, y2, y3, y4], _ =>
    have h0 : DataW.trod enc Tryz.prog W 0 (fun _ => true) true n 22 (([c0, c1, c2, c3, c4].drop 0).take (Tryz.prog.cellsOf 22)) = some y0 := hf 0 _ rfl
    have h1 : DataW.trod enc Tryz.prog W 0 (fun _ => true) true n 3 (([c0, c1, c2, c3, c4].drop 1).take (Tryz.prog.cellsOf 3)) = some y1 := hf 1 _ rfl
    have h2 : DataW.trod enc Tryz.prog W 0 (fun _ => true) true n 3 (([c0, c1, c2, c3, c4].drop 2).take (Tryz.prog.cellsOf 3)) = some y2 := hf 2 _ rfl
    have h3 : DataW.trod enc Tryz.prog W 0 (fun _ => true) true n 3 (([c0, c1, c2, c3, c4].drop 3).take (Tryz.prog.cellsOf 3)) = some y3 := hf 3 _ rfl
    have h4 : DataW.trod enc Tryz.prog W 0 (fun _ => true) true n 23 (([c0, c1, c2, c3, c4].drop 4).take (Tryz.prog.cellsOf 23)) = some y4 := hf 4 _ rfl
    rw [hc3] at h1 h2 h3
    rw [hc22] at h0
    rw [hc23] at h4
    cases hd
    have hw' : ∀ (j : Nat) (t : TypeId) (d : DataW H), [22, 3, 3, 3, 23][j]? = some t → [y0.1, y1.1, y2.1, y3.1, y4.1][j]? = some d → ∀ n ∈ d.weights Tryz.prog t, n ≤ reachBytes := fun j t d ht hd n hn => by
      refine hw n ?_
      simp only [DataW.weights, Tryz.underlying25]
      exact DataW.weights_mem_each (ts := [22, 3, 3, 3, 23]) ht hd n hn
    obtain ⟨g, hg, og⟩ := av_ints h0 (hw' 0 _ _ rfl rfl) k0
    obtain ⟨p, rfl, _⟩ := av_int h1
    obtain ⟨q, rfl, _⟩ := av_int h2
    obtain ⟨r, rfl, _⟩ := av_int h3
    obtain ⟨cn, hcn, oc⟩ := av_cnts h4 (hw' 4 _ _ rfl rfl) k4
    refine ⟨⟨g, p, q, r, cn⟩, VRel.mk_agg ?_, og, oc⟩
    exact LRel.cons hg (LRel.cons (.int _ _) (LRel.cons (.int _ _) (LRel.cons (.int _ _) (LRel.cons hcn (LRel.nil _)))))
end Go.Av.Fx
end
section
namespace Go.Proofs.YtlagjjpbknpdkaaGreatDoor
open Go Go.Av Go.ChangeShapes Go.WideShapes Go.ChangeAt Go.RowKit
set_option maxRecDepth 100000
theorem own : ownKnob Tryz.prog.godebug = none := by kernel_rfl
theorem laidOut : laidOutB Tryz.prog = true := by kernel_rfl
def tabs : List (String × DataW Unit) := [("math/bits.deBruijn32tab", Rows.laid_math_bits_deBruijn32tab), ("math/bits.deBruijn64tab", Rows.laid_math_bits_deBruijn64tab), ("internal/strconv.uint64pow10", Rows.laid_internal_strconv_uint64pow10), ("unicode/utf8.acceptRanges", Rows.laid_unicode_utf8_acceptRanges), ("unicode/utf8.first", Rows.laid_unicode_utf8_first)]
theorem pow_data : (Rows.laid_internal_strconv_uint64pow10 : DataW Unit) = Lib.tabData .u64 Lib.pow10Tab := by kernel_rfl
theorem pow_name : Tryz.prog.globalNamed "internal/strconv.uint64pow10" = some 0 := by kernel_rfl
theorem pow_type : (Tryz.prog.globals[0]?).map (·.type) = some 232 := by kernel_rfl
theorem tab_ok {W : World} (h : laidMetH Tryz.prog tabs W) : Go.Av.Fx.TabOk W := by
  rw [MakeChecks.laidMetH_plain _ _ _ (by kernel_rfl)] at h
  obtain ⟨ps, ⟨_, _, _, _, _, _, _, _, _, _, ⟨_, _, _, _, _, _, _, _, _, _, ⟨g, t, cs, fuel, p, q, hg, ht, hv, hd, _, _⟩, _⟩, _⟩, _, _⟩ := h
  obtain rfl := Option.some.inj (pow_name.symm.trans hg)
  obtain rfl := Option.some.inj (pow_type.symm.trans ht)
  rw [pow_data] at hd
  have hcs := Lib.cells_of_tab (P := Tryz.prog) (t := 232) (e := 215) (n := 20) (k := .u64) (by kernel_rfl) (by kernel_rfl) (by kernel_rfl) (by kernel_rfl) hd
  have hlen : Lib.pow10Tab.length = 20 := by simp [Lib.pow10Tab]
  have hTab : Lib.TabIs Tryz.prog W "internal/strconv.uint64pow10" .u64 Lib.pow10Tab := by
    unfold Lib.TabIs
    rw [hv, ← hcs]
  refine ⟨fun i hi => ?_, ?_⟩
  · have := hTab.cell pow_name i (by rw [hlen]; exact hi)
    rw [show (Lib.pow10Tab.getD i 0 : Int) = ((10 ^ i : Nat) : Int) by
      unfold Lib.pow10Tab
      rw [List.getD_eq_getElem?_getD, List.getElem?_map, List.getElem?_range hi]; rfl] at this
    exact this
  · unfold World.var? at hv
    rw [pow_name, Option.bind_some] at hv
    split at hv
    · rename_i cs' t' fr e
      cases hv
      refine ⟨t', ?_⟩
      unfold World.shape?
      show (match W.heap[0]? with
        | some (.cells c elem _) => some (elem, c.size)
        | _ => none) = _
      rw [e]
      have : cs.size = 20 := by
        have := congrArg List.length hcs
        simpa [hlen] using this
      simp [this]
    · cases hv
end Go.Proofs.YtlagjjpbknpdkaaGreatDoor
end
