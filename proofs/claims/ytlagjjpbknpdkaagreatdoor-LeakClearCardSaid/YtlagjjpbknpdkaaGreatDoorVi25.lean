/- Part 25 of the proof. -/
import Derived.Test.YtlagjjpbknpdkaaGreatDoorVi24
import Derived.Test.YtlagjjpbknpdkaaGreatDoorVi20
import Derived.Test.YtlagjjpbknpdkaaGreatDoorVi23
set_option linter.all false
set_option linter.unusedVariables false
set_option linter.unusedSimpArgs false
set_option linter.unusedSectionVars false
open Nat (reduceEqDiff reduceAdd reduceLeDiff)
section
namespace Go.Av.Fx
open Go Go.Av Go.Av.Tb Go.Proofs
theorem Sub.map {α : Type} (f g : α → AV) (h : ∀ a, Sub (f a) (g a)) (L : List α) (n : Nat) (t : Tail) : Sub (.slice (L.map f) n t) (.slice (L.map g) n .unk) := by
 intro c x hx
 generalize hl : L.map f = l at hx
 cases hx with
 | slice _ _ _ b off cap vs hc hk hr he ht =>
  subst hl
  refine .slice _ n .unk b off cap vs hc (fun j hj => hk j (by simpa using hj)) (fun j y hy => ?_) (fun e => by cases e) (fun k e => by cases e)
  rw [List.getElem?_map] at hy
  cases e : L[j]? with
  | none => rw [e] at hy; cases hy
  | some a =>
   rw [e] at hy; cases hy
   exact h a c _ (hr j (f a) (by rw [List.getElem?_map, e]; rfl))
 | sliceNil _ ht =>
  have : L = [] := by simpa using hl
  subst this
  exact .sliceNil .unk (fun k e => by cases e)
theorem askM : askE lineM true = 0 := by simp [askE, kM_line, kM_poss]
theorem okM : okLine lineM := ⟨by decide, by decide⟩
theorem okN : okLine lineN := ⟨by decide, by decide⟩
theorem q1 : PC Tryz.prog 41 [lineA lineN] (.pure (.tuple [.bool false, .int .i64 0])) := by
 have := Possible_pc lineN okN
 rw [kN_line, kN_poss] at this; exact this
theorem q2 : PC Tryz.prog 22 [lineA lineM] (.pure (.tuple [sll [[0], [1], [2]], .int .i64 0])) := by
 have := Sets_pc lineM okM
 unfold setsA at this
 rw [if_pos askM, kM_sets] at this; exact this
theorem q3 : PC Tryz.prog 21 [lineA lineM] (.pure (.tuple [sl [2, 2, 2], .int .i64 0])) := by
 have := Known_pc lineM okM
 unfold knownA at this
 rw [if_pos askM, show lineM.gives.length = 3 from rfl, kM_words] at this; exact this
theorem q4 : PC Tryz.prog 34 [lineA lineM, .int .i64 1] (.pure (.tuple [spA ⟨78, 94⟩, .int .i64 0])) := by
 have := Flows_pc lineM okM 1
 unfold flowsA at this
 rw [show inB 1 0 lineM.gives.length = true from rfl, if_pos askM, show Int.toNat 1 = 1 from rfl, kM_flows] at this; exact this
theorem q5 : PC Tryz.prog 35 [lineA lineM, .int .i64 0, .int .i64 3] (.pure (.tuple [spA ⟨8, 15⟩, .int .i64 0])) := by
 have := Lost_pc lineM okM 0 3
 unfold lostA at this
 rw [show fineLost lineM 0 3 = true from rfl, if_pos askM, show Int.toNat 0 = 0 from rfl, show Int.toNat 3 = 3 from rfl, kM_lost] at this; exact this
theorem q6 : PC Tryz.prog 30 [lineA lineM, sl [1]] (.pure (.tuple [spA ⟨8, 15⟩, .int .i64 0])) := by
 have := Explains_pc lineM okM [1] (by decide)
 unfold explA at this
 rw [if_pos ⟨kM_line, by decide⟩, if_pos (show isSetB lineM [1] = true by decide +kernel)] at this
 have h := kM_expl
 cases hx : explM lineM [1] with
 | none => rw [hx] at h; cases h
 | some W =>
  rw [hx] at h this
  have h : lostS lineM W 0 3 = ⟨8, 15⟩ := by simpa using h
  simp only [show lineM.gives.length = 3 from rfl, h] at this
  exact this
theorem q7 : PC Tryz.prog 43 [lineA lineM, .int .i64 2] (.pure (.tuple [.int .i64 1, .int .i64 2, .int .i64 0])) := by
 have := Next_pc lineM okM 2
 unfold nextA at this
 rw [show inB 2 0 20 = true from rfl, if_pos askM, kM_next] at this; exact this
theorem q8 : PC Tryz.prog 47 [lineA lineM, sl [1, 2], .int .i64 2] (.pure (.tuple [.bool true, .int .i64 0])) := by
 have := Tells_pc lineM okM [1, 2] (by decide) 2
 unfold tellsA at this
 rw [show fineTells lineM [1, 2] 2 = true by decide +kernel, if_pos askM, kM_tells] at this; exact this
theorem q9 : PC Tryz.prog 48 [lineA lineM, .int .i64 2] (.pure (.tuple [sl [1, 2], .int .i64 0])) := by
 have := Plan_pc lineM okM 2
 unfold planA at this
 rw [show inB 2 0 20 = true from rfl, if_pos askM, kM_plan] at this; exact this
theorem q10 : PC Tryz.prog 53 [lineA lineN] (.pure (.tuple [.int .i64 0, .int .i64 2, .int .i64 0])) := by
 have := Clash_pc lineN okN
 unfold clashA at this
 rw [if_pos kN_line, kN_clash] at this; exact this
theorem q11 : PC Tryz.prog 54 [lineA lineN] (.pure (.tuple [sl [0], .int .i64 0])) := by
 have := Wrong_pc lineN okN
 unfold wrongA at this
 rw [if_pos kN_line, kN_wrong] at this; exact this
theorem q12 : PC Tryz.prog 61 [.str exT] (.pure (.tuple [lineA lineT, .int .i64 0])) := by
 have := Read_pc exT (by decide)
 unfold readA at this
 rw [if_pos (by decide), kT] at this
 simp only [if_pos kT_line] at this
 exact this
theorem q13 : PC Tryz.prog 62 [lineA lineT] (.pure (.str exT)) := by
 have := rPrint_pc lineT (isLine_iff.1 kT_line).plain
 rw [kT_text] at this; exact this
@[go_sem] theorem ne42a : binA T .neq 42 (.agg [.int .i64 78, .int .i64 94]) (.agg [.int .i64 78, .int .i64 94]) = some (.bool false) := rfl
@[go_sem] theorem ne42b : binA T .neq 42 (.agg [.int .i64 8, .int .i64 15]) (.agg [.int .i64 8, .int .i64 15]) = some (.bool false) := rfl
set_option maxRecDepth 100000 in
theorem known_pc : PC Tryz.prog 20 [] (.pure (.bool true)) := by
 refine PC.of_empty (AC.run (E_ok _) mix Tryz.func20 m20 rfl rfl rfl (Nat.le_of_ble_eq_true rfl) ?_) rfl rfl
 simp only [go_sem, reduceEqDiff, Nat.reduceBEq, reduceAdd, reduceIte, reduceCtorEq, reduceLeDiff]
 refine cp n73 N_pc (SubL.refl _) ?_
 simp only [go_sem, reduceEqDiff, Nat.reduceBEq, reduceAdd, reduceIte, reduceCtorEq, reduceLeDiff]
 refine cp n41 q1 (SubL.refl _) ?_
 simp only [go_sem, extractA, reduceEqDiff, Nat.reduceBEq, reduceAdd, reduceIte, reduceCtorEq, reduceLeDiff]
 refine cp n74 M_pc (SubL.refl _) ?_
 simp only [go_sem, reduceEqDiff, Nat.reduceBEq, reduceAdd, reduceIte, reduceCtorEq, reduceLeDiff]
 refine cp n22 q2 (SubL.refl _) ?_
 simp only [go_sem, extractA, reduceEqDiff, Nat.reduceBEq, reduceAdd, reduceIte, reduceCtorEq, reduceLeDiff]
 refine cp n74 M_pc (SubL.refl _) ?_
 simp only [go_sem, reduceEqDiff, Nat.reduceBEq, reduceAdd, reduceIte, reduceCtorEq, reduceLeDiff]
 refine cp n21 q3 (SubL.refl _) ?_
 simp only [go_sem, extractA, reduceEqDiff, Nat.reduceBEq, reduceAdd, reduceIte, reduceCtorEq, reduceLeDiff]
 refine cp n74 M_pc (SubL.refl _) ?_
 simp only [go_sem, reduceEqDiff, Nat.reduceBEq, reduceAdd, reduceIte, reduceCtorEq, reduceLeDiff]
 refine cp n34 q4 (SubL.refl _) ?_
 simp only [go_sem, extractA, put_eq, reduceEqDiff, Nat.reduceBEq, reduceAdd, reduceIte, reduceCtorEq, reduceLeDiff]
 refine cp n74 M_pc (SubL.refl _) ?_
 simp only [go_sem, reduceEqDiff, Nat.reduceBEq, reduceAdd, reduceIte, reduceCtorEq, reduceLeDiff]
 refine cp n35 q5 (SubL.refl _) ?_
 simp only [go_sem, extractA, put_eq, reduceEqDiff, Nat.reduceBEq, reduceAdd, reduceIte, reduceCtorEq, reduceLeDiff]
 refine cp n74 M_pc (SubL.refl _) ?_
 simp only [go_sem, reduceEqDiff, Nat.reduceBEq, reduceAdd, reduceIte, reduceCtorEq, reduceLeDiff]
 refine cp n30 q6 (SubL.cons (Sub.refl _) (SubL.cons (Sub.unk _ _ _) (SubL.refl _))) ?_
 simp only [go_sem, extractA, put_eq, reduceEqDiff, Nat.reduceBEq, reduceAdd, reduceIte, reduceCtorEq, reduceLeDiff]
 refine cp n74 M_pc (SubL.refl _) ?_
 simp only [go_sem, reduceEqDiff, Nat.reduceBEq, reduceAdd, reduceIte, reduceCtorEq, reduceLeDiff]
 refine cp n43 q7 (SubL.refl _) ?_
 simp only [go_sem, extractA, reduceEqDiff, Nat.reduceBEq, reduceAdd, reduceIte, reduceCtorEq, reduceLeDiff]
 refine cp n74 M_pc (SubL.refl _) ?_
 simp only [go_sem, reduceEqDiff, Nat.reduceBEq, reduceAdd, reduceIte, reduceCtorEq, reduceLeDiff]
 refine cp n47 q8 (SubL.cons (Sub.refl _) (SubL.cons (Sub.unk _ _ _) (SubL.refl _))) ?_
 simp only [go_sem, extractA, reduceEqDiff, Nat.reduceBEq, reduceAdd, reduceIte, reduceCtorEq, reduceLeDiff]
 refine cp n74 M_pc (SubL.refl _) ?_
 simp only [go_sem, reduceEqDiff, Nat.reduceBEq, reduceAdd, reduceIte, reduceCtorEq, reduceLeDiff]
 refine cp n48 q9 (SubL.refl _) ?_
 simp only [go_sem, extractA, reduceEqDiff, Nat.reduceBEq, reduceAdd, reduceIte, reduceCtorEq, reduceLeDiff]
 refine cp n73 N_pc (SubL.refl _) ?_
 simp only [go_sem, reduceEqDiff, Nat.reduceBEq, reduceAdd, reduceIte, reduceCtorEq, reduceLeDiff]
 refine cp n53 q10 (SubL.refl _) ?_
 simp only [go_sem, extractA, reduceEqDiff, Nat.reduceBEq, reduceAdd, reduceIte, reduceCtorEq, reduceLeDiff]
 refine cp n73 N_pc (SubL.refl _) ?_
 simp only [go_sem, reduceEqDiff, Nat.reduceBEq, reduceAdd, reduceIte, reduceCtorEq, reduceLeDiff]
 refine cp n54 q11 (SubL.refl _) ?_
 simp only [go_sem, extractA, reduceEqDiff, Nat.reduceBEq, reduceAdd, reduceIte, reduceCtorEq, reduceLeDiff]
 refine cp n61 q12 (SubL.refl _) ?_
 have z0 : ¬ ((0 : Int) ≠ 0) := by decide
 simp only [go_sem, extractA, put_eq, z0, decide_false, reduceEqDiff, Nat.reduceBEq, reduceAdd, reduceIte, reduceCtorEq, reduceLeDiff]
 refine cp n26 (SameSets_pc [[0], [1], [2]] [[0], [1], [2]] (by decide) (by decide) (by decide) (by decide)) (SubL.cons (Sub.refl _) (SubL.cons (Sub.map (fun s => .slice (ints s) s.length .exact) sl (fun s => Sub.unk _ _ _) [[0], [1], [2]] 3 .exact) (SubL.refl _))) ?_
 rw [decide_eq_true rfl]
 simp only [go_sem, un_not, Bool.not_true, reduceEqDiff, Nat.reduceBEq, reduceAdd, reduceIte, reduceCtorEq, reduceLeDiff]
 refine cp n24 (SameWords_pc [2, 2, 2] [2, 2, 2] (by decide) (by decide)) (SubL.cons (Sub.refl _) (SubL.cons (Sub.unk _ _ _) (SubL.refl _))) ?_
 rw [decide_eq_true rfl]
 have z1 : decide ((1 : Int) = 1) = true := rfl
 have z2 : decide ((2 : Int) = 2) = true := rfl
 have z3 : decide ((0 : Int) = 0) = true := rfl
 simp only [go_sem, un_not, Bool.not_true, put_eq, z1, z2, z3, decide_true, reduceEqDiff, Nat.reduceBEq, reduceAdd, reduceIte, reduceCtorEq, reduceLeDiff]
 refine cp n50 (Same_pc [1, 2] [1, 2] (by decide) (by decide)) (SubL.cons (Sub.refl _) (SubL.cons (Sub.unk _ _ _) (SubL.refl _))) ?_
 rw [decide_eq_true rfl]
 simp only [go_sem, un_not, Bool.not_true, put_eq, z1, z2, z3, decide_true, reduceEqDiff, Nat.reduceBEq, reduceAdd, reduceIte, reduceCtorEq, reduceLeDiff]
 refine cp n50 (Same_pc [0] [0] (by decide) (by decide)) (SubL.cons (Sub.refl _) (SubL.cons (Sub.unk _ _ _) (SubL.refl _))) ?_
 rw [decide_eq_true rfl]
 simp only [go_sem, un_not, Bool.not_true, put_eq, z1, z2, z3, decide_true, reduceEqDiff, Nat.reduceBEq, reduceAdd, reduceIte, reduceCtorEq, reduceLeDiff]
 refine cp n62 q13 (SubL.refl _) ?_
 have z4 : binA T .eql 9 (.str exT) (.str ⟨#[108, 105, 110, 101, 32, 49, 32, 49, 32, 48, 10, 115, 116, 114, 101, 116, 99, 104, 32, 48, 10, 101, 110, 100, 32, 48, 53, 49, 10]⟩) = some (.bool true) := (show binA T .eql 9 (.str exT) (.str exT) = some (.bool true) by rw [eqS, decide_eq_true rfl])
 simp only [go_sem, z4, Tryz.f20, reduceEqDiff, Nat.reduceBEq, reduceAdd, reduceIte, reduceCtorEq, reduceLeDiff]
end Go.Av.Fx
end
section
namespace Go.Av.Fx
open Go Go.Av Go.Proofs
open Go.Fw (Sq ent Bd Mat Tells Good)
def gsum (l : LLine) : Nat → Int
 | 0 => 0
 | p + 1 => gsum l p + l.gives.getD p 0
theorem gsum_bd {l : LLine} (h : Lw l) : ∀ p : Nat, 0 ≤ gsum l p ∧ gsum l p ≤ 60 * p
 | 0 => ⟨Int.le_refl _, Int.le_refl _⟩
 | p + 1 => by
  have h1 := gsum_bd h p
  have h2 := h.give p
  show 0 ≤ gsum l p + _ ∧ gsum l p + _ ≤ _
  omega
structure Spn (P : (Nat → Int) → Prop) (g : (Nat → Int) → Int) (sp : Span) : Prop where
 bd : ∀ f, P f → sp.low ≤ g f ∧ g f ≤ sp.high
 lo : ∃ f, P f ∧ g f = sp.low
 hi : ∃ f, P f ∧ g f = sp.high
theorem Spn.imp {P Q : (Nat → Int) → Prop} {g : (Nat → Int) → Int} {a : Span} (h : Spn P g a) (e : ∀ f, P f ↔ Q f) : Spn Q g a := by
 obtain ⟨f1, p1, e1⟩ := h.lo
 obtain ⟨f2, p2, e2⟩ := h.hi
 exact ⟨fun f hf => h.bd f ((e f).2 hf), ⟨f1, (e _).1 p1, e1⟩, ⟨f2, (e _).1 p2, e2⟩⟩
theorem Spn.join {P Q : (Nat → Int) → Prop} {g : (Nat → Int) → Int} {a b : Span} (h : Spn P g a) (h' : Spn Q g b) : Spn (fun f => P f ∨ Q f) g (joinS a b) := by
 obtain ⟨f1, p1, e1⟩ := h.lo
 obtain ⟨f2, p2, e2⟩ := h.hi
 obtain ⟨f3, p3, e3⟩ := h'.lo
 obtain ⟨f4, p4, e4⟩ := h'.hi
 unfold joinS
 refine ⟨?_, ?_, ?_⟩
 ·rintro f (hf | hf)
  ·have := h.bd f hf
   constructor
   ·show (if b.low < a.low then b.low else a.low) ≤ _; split <;> omega
   ·show _ ≤ (if b.high > a.high then b.high else a.high); split <;> omega
  ·have := h'.bd f hf
   constructor
   ·show (if b.low < a.low then b.low else a.low) ≤ _; split <;> omega
   ·show _ ≤ (if b.high > a.high then b.high else a.high); split <;> omega
 ·by_cases c : b.low < a.low
  ·exact ⟨f3, .inr p3, by show _ = if b.low < a.low then b.low else a.low; rw [if_pos c]; exact e3⟩
  ·exact ⟨f1, .inl p1, by show _ = if b.low < a.low then b.low else a.low; rw [if_neg c]; exact e1⟩
 ·by_cases c : b.high > a.high
  ·exact ⟨f4, .inr p4, by show _ = if b.high > a.high then b.high else a.high; rw [if_pos c]; exact e4⟩
  ·exact ⟨f2, .inl p2, by show _ = if b.high > a.high then b.high else a.high; rw [if_neg c]; exact e2⟩
theorem Spn.fold {α : Type} {P : α → (Nat → Int) → Prop} {g : (Nat → Int) → Int} {f : α → Span} : ∀ (L : List α) {Q : (Nat → Int) → Prop} {o : Span}, Spn Q g o → (∀ t ∈ L, Spn (P t) g (f t)) →
  Spn (fun x => Q x ∨ ∃ t, t ∈ L ∧ P t x) g (L.foldl (fun o t => joinS o (f t)) o)
 | [], Q, o, h, _ => h.imp fun x => ⟨.inl, fun hx => hx.elim id fun ⟨t, ht, _⟩ => by cases ht⟩
 | t :: L, Q, o, h, hL => by
  refine (Spn.fold L (h.join (hL t List.mem_cons_self)) fun t ht => hL t (List.mem_cons_of_mem _ ht)).imp fun x => ?_
  constructor
  ·rintro ((h | h) | ⟨u, hu, h⟩)
   ·exact .inl h
   ·exact .inr ⟨t, List.mem_cons_self, h⟩
   ·exact .inr ⟨u, List.mem_cons_of_mem _ hu, h⟩
  ·rintro (h | ⟨u, hu, h⟩)
   ·exact .inl (.inl h)
   ·rcases List.mem_cons.1 hu with rfl | hu
    ·exact .inl (.inr h)
    ·exact .inr ⟨u, hu, h⟩
end Go.Av.Fx
end
section
namespace Go.Av.Fx
open Go Go.Av Go.Av.Tb Go.Proofs
def lexB : List Int → List Int → Bool
 | x :: a, y :: b => if x = y then lexB a b else decide (x < y)
 | _, _ => false
def beforeB (a b : List Int) : Bool := if a.length = b.length then lexB a b else decide (a.length < b.length)
theorem lexB_drop : ∀ (a b : List Int) (k : Nat), a.length = b.length → (∀ i (h1 : i < k) (h2 : i < a.length) (h3 : i < b.length), a[i] = b[i]) → lexB a b = lexB (a.drop k) (b.drop k)
 | a, b, 0, _, _ => rfl
 | [], [], k + 1, _, _ => rfl
 | x :: a, y :: b, k + 1, hl, h => by
  have h0 := h 0 (by omega) (by simp) (by simp)
  simp only [List.getElem_cons_zero] at h0
  subst h0
  simp only [lexB, if_true, List.drop_succ_cons]
  exact lexB_drop a b k (by simpa using hl) fun i h1 h2 h3 => by
   have := h (i + 1) (by omega) (by simpa using h2) (by simpa using h3)
   simpa using this
theorem before_pc (a b : List Int) (ha : okL a.length) (hb : okL b.length) : PC Tryz.prog 32 [sl a, sl b] (.pure (.bool (beforeB a b))) := by
 refine PC.of_empty (AC.run (E_ok _) mix Tryz.func32 m32 rfl rfl rfl (Nat.le_of_ble_eq_true rfl) ?_) (by simp [bndL, AV.bnd]) rfl
 unfold beforeB
 by_cases hl : a.length = b.length
 ·have hn : ¬ ((a.length : Int) ≠ b.length) := fun h => h (by omega)
  rw [if_pos hl]
  simp only [go_sem, builtinA, hn, decide_false, reduceEqDiff, Nat.reduceBEq, reduceAdd, reduceIte, reduceCtorEq, reduceLeDiff]
  refine wc_forP a.length (fun k => ∀ i (h1 : i < k) (h2 : i < a.length) (h3 : i < b.length), a[i] = b[i]) (fun k => [(0, sl a), (1, sl b), (5, .int .i64 k)]) (fun _ => St.empty) (fun i hi => absurd hi (Nat.not_lt_zero _)) rfl rfl ?_
  intro k hk hP I hI
  rw [lexB_drop a b k hl hP]
  by_cases h : k < a.length
  ·have h' : (k : Int) < a.length := by omega
   have h2 : 0 ≤ (k : Int) ∧ (k : Int) < a.length := by omega
   have h2' : 0 ≤ (k : Int) ∧ (k : Int) < b.length := by omega
   have hkb : k < b.length := by omega
   have h3 : a[k]? = some a[k] := List.getElem?_eq_getElem h
   have h3' : b[k]? = some b[k] := List.getElem?_eq_getElem hkb
   have h4 : IntKind.i64.wrap ((k : Int) + 1) = (k + 1 : Nat) := wrap64 (by omega)
   by_cases hb : a[k] = b[k]
   ·have hq : ¬ a[k] ≠ b[k] := fun h => h hb
    rw [← lexB_drop a b k hl hP]
    simp only [go_sem, l32_0, builtinA, h', decide_true, h2, h2', ints_get, h3, h3', hq, decide_false, h4, reduceEqDiff, Nat.reduceBEq, reduceAdd, reduceIte, reduceCtorEq, reduceLeDiff]
    refine hI h fun i hi hi2 hi3 => ?_
    by_cases e : i = k
    ·subst e; exact hb
    ·exact hP i (by omega) hi2 hi3
   ·have hd : decide (a[k] ≠ b[k]) = true := decide_eq_true hb
    simp only [go_sem, l32_0, builtinA, h', decide_true, h2, h2', ints_get, h3, h3', hd, Option.map_some, Tryz.f32, reduceEqDiff, Nat.reduceBEq, reduceAdd, reduceIte, reduceCtorEq, reduceLeDiff]
    rw [List.drop_eq_getElem_cons h, List.drop_eq_getElem_cons hkb]
    simp only [lexB, if_neg hb]
  ·have h' : ¬ (k : Int) < a.length := by omega
   simp only [go_sem, l32_0, builtinA, h', decide_false, Tryz.f32, reduceEqDiff, Nat.reduceBEq, reduceAdd, reduceIte, reduceCtorEq, reduceLeDiff]
   rw [List.drop_of_length_le (by omega), lexB]
   exact fun x a y b h => by cases h
 ·have hn : ((a.length : Int) ≠ b.length) := fun h => hl (by omega)
  have hd := decide_eq_true hn
  rw [if_neg hl]
  simp only [go_sem, builtinA, hd, Tryz.f32, reduceEqDiff, Nat.reduceBEq, reduceAdd, reduceIte, reduceCtorEq, reduceLeDiff]
  simp
def risAt (l : LLine) (x : List Int) (i : Nat) : Bool := decide (0 ≤ x.getD i 0) && decide (x.getD i 0 < l.counts.length) && (decide (i = 0) || decide (x.getD (i - 1) 0 < x.getD i 0))
def risingB (l : LLine) (x : List Int) : Bool := (List.range x.length).all (risAt l x)
theorem rising_pc (l : LLine) (x : List Int) (hs : okL x.length) : PC Tryz.prog 57 [lineA l, sl x] (.pure (.bool (risingB l x))) := by
 refine PC.of_empty (AC.run (E_ok _) mix Tryz.func57 m57 rfl rfl rfl (Nat.le_of_ble_eq_true rfl) ?_) (by simp [bndL, AV.bnd]) rfl
 simp only [go_sem, boxA, builtinA, reduceEqDiff, Nat.reduceBEq, reduceAdd, reduceIte, reduceCtorEq, reduceLeDiff]
 refine wc_forP x.length (fun k => ∀ i (h1 : i < k), risAt l x i = true) (fun k => [(1, sl x), (2, .ref 0 0), (5, .int .i64 k)]) (fun _ => ⟨[some (.cells (lineC l))], 0, []⟩) (fun i hi => absurd hi (Nat.not_lt_zero _)) rfl rfl ?_
 intro k hk hP I hI
 obtain ⟨B, hB⟩ : ∃ B, l57_0 = .seq (.seq (.region [1, 2, 5, 9] r57_2) (.cond (.tmp 9) .skip (.exit 0))) B := ⟨_, rfl⟩
 have hB2 := hB
 rw [hB]
 by_cases h : k < x.length
 ·have h' : (k : Int) < x.length := by omega
  have h2 : 0 ≤ (k : Int) ∧ (k : Int) < x.length := by omega
  have h3 : x[k]? = some (x.getD k 0) := by rw [List.getD_eq_getElem?_getD, List.getElem?_eq_getElem h]; rfl
  have h4 : IntKind.i64.wrap ((k : Int) + 1) = (k + 1 : Nat) := wrap64 (by omega)
  have bad : risAt l x k = false → risingB l x = false := fun hb => by
   unfold risingB; rw [List.all_eq_false]; exact ⟨k, List.mem_range.2 h, by rw [hb]; decide⟩
  have good : risAt l x k = true → ∀ i (h1 : i < k + 1), risAt l x i = true := fun hb i hi => by
   by_cases e : i = k
   ·subst e; exact hb
   ·exact hP i (by omega)
  simp only [go_sem, builtinA, h', decide_true, reduceEqDiff, Nat.reduceBEq, reduceAdd, reduceIte, reduceCtorEq, reduceLeDiff]
  unfold l57_0 at hB2
  injection hB2 with _ hB2
  subst hB2
  by_cases b1 : x.getD k 0 < 0
  ·simp only [go_sem, builtinA, decide_true, h2, ints_get, h3, Option.map_some, b1, Tryz.f57, reduceEqDiff, Nat.reduceBEq, reduceAdd, reduceIte, reduceCtorEq, reduceLeDiff]
   rw [bad (by unfold risAt; rw [decide_eq_false (p := 0 ≤ x.getD k 0) (by omega)]; rfl)]
  by_cases b2 : x.getD k 0 ≥ (l.counts.length : Int)
  ·simp only [go_sem, builtinA, decide_true, h2, ints_get, h3, Option.map_some, b1, b2, decide_false, Tryz.f57, reduceEqDiff, Nat.reduceBEq, reduceAdd, reduceIte, reduceCtorEq, reduceLeDiff]
   rw [bad (by unfold risAt; rw [decide_eq_false (p := x.getD k 0 < l.counts.length) (by omega)]; simp)]
  have g : (decide (0 ≤ x.getD k 0) && decide (x.getD k 0 < (l.counts.length : Int))) = true := by
   rw [decide_eq_true (p := 0 ≤ x.getD k 0) (by omega), decide_eq_true (p := x.getD k 0 < l.counts.length) (by omega)]; rfl
  by_cases hz : k = 0
  ·have hz' : ¬ (k : Int) > 0 := by omega
   simp only [go_sem, builtinA, decide_true, h2, ints_get, h3, Option.map_some, b1, b2, hz', decide_false, h4, reduceEqDiff, Nat.reduceBEq, reduceAdd, reduceIte, reduceCtorEq, reduceLeDiff]
   exact hI h (good (by unfold risAt; rw [g, hz]; rfl))
  ·have hz' : (k : Int) > 0 := by omega
   have w1 : IntKind.i64.wrap ((k : Int) - 1) = (k - 1 : Nat) := by rw [wrap64 (by omega)]; omega
   have w2 : 0 ≤ ((k - 1 : Nat) : Int) ∧ ((k - 1 : Nat) : Int) < x.length := by omega
   have w3 : x[k - 1]? = some (x.getD (k - 1) 0) := by rw [List.getD_eq_getElem?_getD, List.getElem?_eq_getElem (by omega)]; rfl
   by_cases hc : x.getD k 0 ≤ x.getD (k - 1) 0
   ·simp only [go_sem, builtinA, decide_true, h2, ints_get, h3, Option.map_some, b1, b2, hz', decide_false, w1, w2, w3, hc, Tryz.f57, reduceEqDiff, Nat.reduceBEq, reduceAdd, reduceIte, reduceCtorEq, reduceLeDiff]
    rw [bad (by unfold risAt; rw [g, decide_eq_false hz, decide_eq_false (by omega)]; rfl)]
   ·simp only [go_sem, builtinA, decide_true, h2, ints_get, h3, Option.map_some, b1, b2, hz', decide_false, w1, w2, w3, hc, h4, reduceEqDiff, Nat.reduceBEq, reduceAdd, reduceIte, reduceCtorEq, reduceLeDiff]
    exact hI h (good (by unfold risAt; rw [g, decide_eq_true (p := x.getD (k - 1) 0 < x.getD k 0) (by omega)]; simp))
 have h' : ¬ (k : Int) < x.length := by omega
 have hs2 : risingB l x = true := by
  unfold risingB; rw [List.all_eq_true]; intro i hi; exact hP i (by have := List.mem_range.1 hi; omega)
 rw [hs2]
 simp only [go_sem, builtinA, h', decide_false, Tryz.f57, reduceEqDiff, Nat.reduceBEq, reduceAdd, reduceIte, reduceCtorEq, reduceLeDiff]
end Go.Av.Fx
end
section
namespace Go.Av.Fx
open Go Go.Av Go.Proofs
open Go.Fw (Sq ent Bd Mat Tells Good)
theorem mem_setsL {m : Nat} {s : List Int} : s ∈ setsL m ↔ s = [] ∨ (∃ i : Nat, i < m ∧ s = [(i : Int)]) ∨ ∃ i k : Nat, i < k ∧ k < m ∧ s = [(i : Int), (k : Int)] := by
 unfold setsL ones twos twosAt
 simp only [List.mem_cons, List.mem_append, List.mem_map, List.mem_range, List.mem_flatMap]
 constructor
 ·rintro (h | ⟨i, hi, h⟩ | ⟨i, hi, j, hj, h⟩)
  ·exact .inl h
  ·exact .inr (.inl ⟨i, hi, h.symm⟩)
  ·exact .inr (.inr ⟨i, i + 1 + j, by omega, by omega, h.symm⟩)
 ·rintro (h | ⟨i, hi, h⟩ | ⟨i, k, hi, hk, h⟩)
  ·exact .inl h
  ·exact .inr (.inl ⟨i, hi, h.symm⟩)
  ·exact .inr (.inr ⟨i, by omega, k - (i + 1), by omega, by rw [h, show i + 1 + (k - (i + 1)) = k by omega]⟩)
def upB (lo hi : Int) (s : List Int) : Bool := (List.range s.length).all fun i => inB (s.getD i 0) lo hi && (decide (i = 0) || decide (s.getD (i - 1) 0 < s.getD i 0))
theorem up_iff {lo hi : Int} {s : List Int} : upB lo hi s = true ↔ (∀ x ∈ s, lo ≤ x ∧ x ≤ hi) ∧ s.Pairwise (· < ·) := by
 unfold upB
 rw [List.all_eq_true]
 constructor
 ·intro h
  have h' : ∀ i (hi' : i < s.length), (lo ≤ s[i] ∧ s[i] ≤ hi) ∧ (i = 0 ∨ s.getD (i - 1) 0 < s[i]) := fun i hi' => by
   have := h i (List.mem_range.2 hi')
   rw [Bool.and_eq_true, inB_iff, Bool.or_eq_true, decide_eq_true_iff, decide_eq_true_iff, getD_at _ hi'] at this
   exact this
  refine ⟨fun x hx => ?_, ?_⟩
  ·obtain ⟨i, hi', rfl⟩ := List.mem_iff_getElem.1 hx
   exact (h' i hi').1
  ·rw [List.pairwise_iff_getElem]
   intro i j hi' hj hij
   induction j with
   | zero => omega
   | succ j ih =>
    have h1 := (h' (j + 1) hj).2
    have h2 : s.getD (j + 1 - 1) 0 = s[j]'(by omega) := by rw [Nat.add_sub_cancel]; exact getD_at _ (by omega)
    rw [h2] at h1
    by_cases e : i = j
    ·subst e; omega
    ·have := ih (by omega) (by omega); omega
 ·rintro ⟨h1, h2⟩ i hi'
  have hi' := List.mem_range.1 hi'
  rw [Bool.and_eq_true, inB_iff, Bool.or_eq_true, decide_eq_true_iff, decide_eq_true_iff, getD_at _ hi']
  refine ⟨h1 _ (List.getElem_mem hi'), ?_⟩
  by_cases e : i = 0
  ·exact .inl e
  ·refine .inr ?_
   rw [getD_at _ (by omega : i - 1 < s.length)]
   exact List.pairwise_iff_getElem.1 h2 (i - 1) i (by omega) hi' (by omega)
theorem ris_up (l : LLine) (s : List Int) : risingB l s = upB 0 (l.counts.length - 1) s := by
 unfold risingB upB
 congr 1
 funext i
 unfold risAt inB
 congr 1
 rw [Bool.eq_iff_iff]
 simp only [Bool.and_eq_true, decide_eq_true_iff]
 omega
end Go.Av.Fx
end
section
namespace Go.Av.Fx
open Go Go.Av Go.Proofs
open Go.Fw (Sq ent Bd Mat Tells Good)
end Go.Av.Fx
end
section
namespace Go.Av.Fx
open Go Go.Av Go.Av.Tb Go.Proofs
end Go.Av.Fx
end
section
namespace Go.Av.Fx
open Go Go.Av Go.Av.Tb Go.Proofs
end Go.Av.Fx
end
section
namespace Go.Av.Fx
open Go Go.Av Go.Av.Tb Go.Proofs
def nl (ns : List Nat) : List Int := ns.map fun (n : Nat) => (n : Int)
@[simp] theorem nl_len (ns : List Nat) : (nl ns).length = ns.length := by simp [nl]
def keptL (l : LLine) (ns : List Nat) : LLine := { l with counts := ns.map (cntAt l) }
theorem groC_frz (H : List (Option Blk)) (cs : List Cnt) : Frz H (groC cs) (.slice (cnts cs) cs.length .unk) := by
 cases cs with
 | nil => exact .nil
 | cons c cs => exact .unk _ _ _
theorem line_frz (H : List (Option Blk)) (l : LLine) (cs : List Cnt) : Frz H (.agg [sl l.gives, .int .i64 l.least, .int .i64 l.most, .int .i64 l.taps, groC cs]) (lineA { l with counts := cs }) := by
 refine .agg _ _ rfl fun j x y hx hy => ?_
 match j, hx, hy with
 | 0, hx, hy => simp at hx; cases hy; subst hx; exact .same _
 | 1, hx, hy => simp at hx; cases hy; subst hx; exact .same _
 | 2, hx, hy => simp at hx; cases hy; subst hx; exact .same _
 | 3, hx, hy => simp at hx; cases hy; subst hx; exact .same _
 | 4, hx, hy => simp at hx; cases hy; subst hx; exact groC_frz _ _
 | j + 5, hx, hy => simp at hx
theorem Kept_pc (l : LLine) (hl : l.counts.length ≤ 1000) (ns : List Nat) (hn : ns.length ≤ 1000) (hin : ∀ n ∈ ns, n < l.counts.length) : PC Tryz.prog 59 [lineA l, sl (nl ns)] (.pure (lineA (keptL l ns))) := by
 refine PC.of_frz (AC.run (E_ok _) mix Tryz.func59 m59 rfl rfl rfl (Nat.le_of_ble_eq_true rfl) ?_) (by simp [bndL, AV.bnd]) (by simp [bndL, AV.bnd])
 simp only [go_sem, boxA, put_eq, reduceEqDiff, Nat.reduceBEq, reduceAdd, reduceIte, reduceCtorEq, reduceLeDiff]
 refine wc_for ns.length (fun k => [(1, sl (nl ns)), (2, .ref 0 0), (4, .ref 1 0), (5, .ref 2 0), (6, .int .i64 k)])
  (fun k => ⟨[some (.cells (lineC l)), some (.cells [.nilS, .int .i64 0, .int .i64 0, .int .i64 0, .nilS]), some (.cells [sl l.gives, .int .i64 l.least, .int .i64 l.most, .int .i64 l.taps, groC ((ns.take k).map (cntAt l))])], k, toksN k⟩) rfl rfl ?_
 intro k hk I hI
 by_cases h : k < ns.length
 ·have h' : (k : Int) < (nl ns).length := by rw [nl_len]; omega
  have h2 : 0 ≤ (k : Int) ∧ (k : Int) < (nl ns).length := by rw [nl_len]; omega
  have h3 : (nl ns)[k]? = some (ns[k] : Int) := by unfold nl; rw [List.getElem?_map, List.getElem?_eq_getElem h]; rfl
  have h4 : IntKind.i64.wrap ((k : Int) + 1) = (k + 1 : Nat) := wrap64 (by omega)
  have hi := hin _ (List.getElem_mem h)
  have g2 : 0 ≤ (ns[k] : Int) ∧ (ns[k] : Int) < l.counts.length := by omega
  have g3 : ns[k] * 3 + 3 ≤ (cnts l.counts).length := by rw [cnts_len]; omega
  have g5 := cnts_at l.counts ns[k] hi
  have e1 : cntAt l ns[k] = l.counts[ns[k]] := getD_at _ hi
  have hI := hI h
  rw [List.take_succ_eq_append_getElem h, List.map_append, List.map_cons, List.map_nil, e1] at hI
  generalize hq : (ns.take k).map (cntAt l) = cs at hI ⊢
  have hql : cs.length = k := by rw [← hq]; simp; omega
  simp only [go_sem, l59_0, builtinA, h', decide_true, h2, ints_get, h3, Option.map_some, g2, g3, g5, reduceEqDiff, Nat.reduceBEq, reduceAdd, reduceIte, reduceCtorEq, reduceLeDiff]
  refine sr_groC cs l.counts[ns[k]] hql (by omega) ?_
  simp only [go_sem, put_eq, h4, reduceEqDiff, Nat.reduceBEq, reduceAdd, reduceIte, reduceCtorEq, reduceLeDiff]
  exact hI
 ·have h' : ¬ (k : Int) < (nl ns).length := by rw [nl_len]; omega
  have ek : k = ns.length := by omega
  subst ek
  simp only [go_sem, l59_0, builtinA, h', decide_false, put_eq, Tryz.f59, reduceEqDiff, Nat.reduceBEq, reduceAdd, reduceIte, reduceCtorEq, reduceLeDiff]
  rw [List.take_length]
  exact ⟨_, rfl, line_frz _ l _⟩
def restN (l : LLine) (w : List Int) (k : Nat) : List Nat := (List.range k).filter fun (i : Nat) => !w.contains (i : Int)
theorem without_kept (l : LLine) (w : List Int) : withoutL l w = keptL l (restN l w l.counts.length) := rfl
theorem restN_len (l : LLine) (w : List Int) (k : Nat) : (restN l w k).length ≤ k := by
 unfold restN
 exact Nat.le_trans (List.length_filter_le _ _) (by simp)
theorem restN_succ (l : LLine) (w : List Int) (k : Nat) : restN l w (k + 1) = restN l w k ++ (if w.contains (k : Int) = true then [] else [k]) := by
 unfold restN
 rw [List.range_succ, List.filter_append, List.filter_cons, List.filter_nil]
 cases w.contains (k : Int) <;> rfl
theorem Without_pc (l : LLine) (hl : l.counts.length ≤ 1000) (w : List Int) (hw : w.length ≤ 1000) : PC Tryz.prog 58 [lineA l, sl w] (.pure (lineA (withoutL l w))) := by
 refine PC.of_empty (AC.run (E_ok _) mix Tryz.func58 m58 rfl rfl rfl (Nat.le_of_ble_eq_true rfl) ?_) (by simp [bndL, AV.bnd]) (by simp [bndL, AV.bnd])
 simp only [go_sem, boxA, reduceEqDiff, Nat.reduceBEq, reduceAdd, reduceIte, reduceCtorEq, reduceLeDiff]
 refine wc_for l.counts.length (fun k => [(1, sl w), (2, .ref 0 0), (4, .ref 1 0), (5, gro (ints (nl (restN l w k)))), (6, .int .i64 k)])
  (fun k => ⟨[some (.cells (lineC l)), some (.cells [.nilS, .int .i64 0, .int .i64 0, .int .i64 0, .nilS])], (restN l w k).length, toksN (restN l w k).length⟩) rfl rfl ?_
 intro k hk I hI
 by_cases h : k < l.counts.length
 ·have h' : (k : Int) < l.counts.length := by omega
  have h4 : IntKind.i64.wrap ((k : Int) + 1) = (k + 1 : Nat) := wrap64 (by omega)
  have hI := hI h
  rw [restN_succ] at hI
  have hle := restN_len l w k
  simp only [go_sem, l58_0, builtinA, h', decide_true, reduceEqDiff, Nat.reduceBEq, reduceAdd, reduceIte, reduceCtorEq, reduceLeDiff]
  refine cp n77 (has_pc w (by show _ < _; omega) k) (SubL.refl _) ?_
  cases hc : w.contains (k : Int)
  ·rw [hc, if_neg (by decide)] at hI
   simp only [go_sem, un_not, Bool.not_false, reduceEqDiff, Nat.reduceBEq, reduceAdd, reduceIte, reduceCtorEq, reduceLeDiff]
   refine sr_gro22 _ _ .exact (by simp) (by omega) ?_
   simp only [go_sem, h4, reduceEqDiff, Nat.reduceBEq, reduceAdd, reduceIte, reduceCtorEq, reduceLeDiff]
   have e : ints (nl (restN l w k ++ [k])) = ints (nl (restN l w k)) ++ [.int .i64 k] := by simp [nl, ints]
   rw [e, List.length_append] at hI
   exact hI
  ·rw [hc, if_pos rfl, List.append_nil] at hI
   simp only [go_sem, un_not, Bool.not_true, h4, reduceEqDiff, Nat.reduceBEq, reduceAdd, reduceIte, reduceCtorEq, reduceLeDiff]
   exact hI
 ·have h' : ¬ (k : Int) < l.counts.length := by omega
  have ek : k = l.counts.length := by omega
  subst ek
  have hle := restN_len l w l.counts.length
  simp only [go_sem, l58_0, builtinA, h', decide_false, reduceEqDiff, Nat.reduceBEq, reduceAdd, reduceIte, reduceCtorEq, reduceLeDiff]
  rw [without_kept]
  refine cp n59 (Kept_pc l hl (restN l w l.counts.length) (by omega) (fun n hn => List.mem_range.1 (List.mem_filter.1 hn).1)) (SubL.cons (Sub.refl _) (SubL.cons (gro_sub _) (SubL.refl []))) ?_
  simp only [go_sem, put_eq, Tryz.f58, reduceEqDiff, Nat.reduceBEq, reduceAdd, reduceIte, reduceCtorEq, reduceLeDiff]
end Go.Av.Fx
end
section
namespace Go.Av.Fx
open Go Go.Av Go.Av.Tb Go.Proofs
end Go.Av.Fx
end
section
namespace Go.Av.Fx
open Go Go.Av Go.Av.Tb Go.Proofs
def dropM (p : List Int → Bool) (below : Nat) : Nat → List Int → Nat → Option (List Int)
 | 0, now, _ => if p now = true then some now else none
 | m + 1, now, fr => firstN (fun n => dropM p below m (now ++ [(n : Int)]) (n + 1)) fr (below - fr)
theorem firstN_more {f : Nat → Option (List Int)} (s : Nat) : ∀ (r n : Nat), (∀ i, n + r ≤ i → i < n + r + s → f i = none) → firstN f n (r + s) = firstN f n r
 | 0, n, h => by
  rw [Nat.zero_add]
  induction s generalizing n with
  | zero => rfl
  | succ s ih =>
   unfold firstN
   rw [h n (by omega) (by omega)]
   exact ih (n + 1) fun i h1 h2 => h i (by omega) (by omega)
 | r + 1, n, h => by
  rw [show r + 1 + s = (r + s) + 1 by omega]
  unfold firstN
  cases f n with
  | some x => rfl
  | none => exact firstN_more s r (n + 1) fun i h1 h2 => h i (by omega) (by omega)
theorem search_none {p : List Int → Bool} {below m : Nat} {now : List Int} {fr : Nat} (h : below < fr + m) (hm : 0 < m) : searchL p below m now fr = none := by
 cases m with
 | zero => omega
 | succ m =>
  unfold searchL
  rw [show below + 1 - (fr + (m + 1)) = 0 by omega]; rfl
theorem drop_eq' (p : List Int → Bool) (below : Nat) : ∀ (m : Nat) (now : List Int) (fr : Nat), dropM p below m now fr = searchL p below m now fr
 | 0, now, fr => rfl
 | m + 1, now, fr => by
  unfold dropM searchL
  have e : (fun n : Nat => dropM p below m (now ++ [(n : Int)]) (n + 1)) = fun n : Nat => searchL p below m (now ++ [(n : Int)]) (n + 1) := by
   funext n; exact drop_eq' p below m _ _
  rw [e]
  obtain ⟨s, hs⟩ : ∃ s, below - fr = (below + 1 - (fr + (m + 1))) + s := ⟨below - fr - (below + 1 - (fr + (m + 1))), by omega⟩
  rw [hs]
  refine firstN_more s _ _ fun i h1 h2 => ?_
  exact search_none (by omega) (by omega)
def dropA (p : List Int → Bool) (below m : Nat) (now : List Int) (fr : Nat) : AV := match m with
 | 0 => .tuple [sl now, .bool (p now)]
 | m + 1 => match dropM p below (m + 1) now fr with
  | some r => .tuple [sl r, .bool true]
  | none => .tuple [sl [], .bool false]
theorem firstN_step (f : Nat → Option (List Int)) (n r : Nat) : firstN f n (r + 1) = match f n with | some x => some x | none => firstN f (n + 1) r := rfl
end Go.Av.Fx
end
section
namespace Go.Av.Fx
open Go Go.Av Go.Av.Tb Go.Proofs
end Go.Av.Fx
end
section
namespace Go.Av.Fx
open Go Go.Av Go.Av.Tb Go.Proofs
theorem search_len {p : List Int → Bool} {below : Nat} : ∀ (m : Nat) (now : List Int) (fr : Nat) (x : List Int), searchL p below m now fr = some x → x.length = now.length + m
 | 0, now, fr, x, e => by
  unfold searchL at e
  split at e
  ·cases e; rfl
  ·cases e
 | m + 1, now, fr, x, e => by
  unfold searchL at e
  have : ∀ (r n : Nat) (x : List Int), firstN (fun n => searchL p below m (now ++ [(n : Int)]) (n + 1)) n r = some x → x.length = now.length + (m + 1) := by
   intro r
   induction r with
   | zero => intro n x e; cases e
   | succ r ih =>
    intro n x e
    rw [firstN_step] at e
    cases hf : searchL p below m (now ++ [(n : Int)]) (n + 1) with
    | some y =>
     simp only [hf] at e
     cases e
     have := search_len m _ _ _ hf
     simp at this; omega
    | none =>
     simp only [hf] at e
     exact ih (n + 1) x e
  exact this _ _ _ e
theorem wrong_len (l : LLine) : (wrongL l).length ≤ l.counts.length := by
 unfold wrongL shortestL
 have : ∀ (r n : Nat) (x : List Int), n + r ≤ l.counts.length + 1 → firstN (fun m => searchL (fun w => possB (withoutL l w)) l.counts.length m [] 0) n r = some x → x.length ≤ l.counts.length := by
  intro r
  induction r with
  | zero => intro n x _ e; cases e
  | succ r ih =>
   intro n x hn e
   rw [firstN_step] at e
   cases hf : searchL (fun w => possB (withoutL l w)) l.counts.length n [] 0 with
   | some y =>
    simp only [hf] at e
    cases e
    have := search_len n _ _ _ hf
    simp at this; omega
   | none =>
    simp only [hf] at e
    exact ih (n + 1) x (by omega) e
 cases hx : firstN (fun m => searchL (fun w => possB (withoutL l w)) l.counts.length m [] 0) 0 (l.counts.length + 1) with
 | none => exact Nat.zero_le _
 | some x => exact this _ _ _ (by omega) hx
end Go.Av.Fx
end
section
namespace Go.Av.Fx
open Go Go.Av Go.Proofs
def Lx : List Int → List Int → Prop
 | a :: s, b :: t => a < b ∨ (a = b ∧ Lx s t)
 | _, _ => False
def Rs (below : Nat) : Nat → List Int → Prop
 | _, [] => True
 | fr, a :: s => ∃ n : Nat, a = n ∧ fr ≤ n ∧ n < below ∧ Rs below (n + 1) s
theorem firstN_some {f : Nat → Option (List Int)} : ∀ {r n : Nat} {x : List Int}, firstN f n r = some x → ∃ i, n ≤ i ∧ i < n + r ∧ f i = some x ∧ ∀ j, n ≤ j → j < i → f j = none
 | 0, n, x, e => by cases e
 | r + 1, n, x, e => by
  rw [firstN_step] at e
  cases hf : f n with
  | some y => simp only [hf] at e; cases e; exact ⟨n, Nat.le_refl _, by omega, hf, fun j h1 h2 => by omega⟩
  | none =>
   simp only [hf] at e
   obtain ⟨i, h1, h2, h3, h4⟩ := firstN_some e
   refine ⟨i, by omega, by omega, h3, fun j h5 h6 => ?_⟩
   by_cases ej : j = n
   ·subst ej; exact hf
   ·exact h4 j (by omega) h6
theorem firstN_none {f : Nat → Option (List Int)} : ∀ {r n : Nat}, firstN f n r = none → ∀ j, n ≤ j → j < n + r → f j = none
 | 0, n, e, j, h1, h2 => by omega
 | r + 1, n, e, j, h1, h2 => by
  rw [firstN_step] at e
  cases hf : f n with
  | some y => simp only [hf] at e; cases e
  | none =>
   simp only [hf] at e
   by_cases ej : j = n
   ·subst ej; exact hf
   ·exact firstN_none e j (by omega) (by omega)
theorem drop_some (p : List Int → Bool) (below : Nat) : ∀ (m : Nat) (now : List Int) (fr : Nat) (x : List Int), dropM p below m now fr = some x →
  p x = true ∧ ∃ s, x = now ++ s ∧ s.length = m ∧ Rs below fr s ∧ ∀ t, t.length = m → Rs below fr t → p (now ++ t) = true → ¬ Lx t s
 | 0, now, fr, x, e => by
  unfold dropM at e
  split at e
  ·cases e
   rename_i h
   exact ⟨h, [], by simp, rfl, trivial, fun t _ _ _ hx => by cases t <;> exact hx⟩
  ·cases e
 | m + 1, now, fr, x, e => by
  unfold dropM at e
  obtain ⟨i, h1, h2, h3, h4⟩ := firstN_some e
  obtain ⟨hp, s, e1, e2, e3, e4⟩ := drop_some p below m _ _ _ h3
  refine ⟨hp, (i : Int) :: s, by rw [e1]; simp, by simp [e2], ⟨i, rfl, h1, by omega, e3⟩, fun t ht hr hpt hx => ?_⟩
  cases t with
  | nil => cases ht
  | cons a t =>
   obtain ⟨n, rfl, g1, g2, g3⟩ := hr
   have hnt : now ++ (n : Int) :: t = (now ++ [(n : Int)]) ++ t := by simp
   rw [hnt] at hpt
   have htl : t.length = m := by simpa using ht
   rcases hx with hx | ⟨hx, hx2⟩
   ·have hn := h4 n g1 (by omega)
    exact drop_no p below m _ _ hn t htl g3 hpt
   ·have : n = i := by omega
    subst this
    exact e4 t htl g3 hpt hx2
where
 drop_no (p : List Int → Bool) (below : Nat) : ∀ (m : Nat) (now : List Int) (fr : Nat), dropM p below m now fr = none → ∀ t, t.length = m → Rs below fr t → p (now ++ t) = true → False
  | 0, now, fr, e, t, ht, hr, hp => by
   have : t = [] := List.length_eq_zero_iff.1 ht
   subst this
   rw [List.append_nil] at hp
   unfold dropM at e
   rw [if_pos hp] at e; cases e
  | m + 1, now, fr, e, t, ht, hr, hp => by
   cases t with
   | nil => cases ht
   | cons a t =>
    obtain ⟨n, rfl, g1, g2, g3⟩ := hr
    have hnt : now ++ (n : Int) :: t = (now ++ [(n : Int)]) ++ t := by simp
    rw [hnt] at hp
    unfold dropM at e
    exact drop_no p below m _ _ (firstN_none e n g1 (by omega)) t (by simpa using ht) g3 hp
theorem rs_len {below : Nat} : ∀ {fr : Nat} {t : List Int}, Rs below fr t → t.length + fr ≤ below ∨ t = []
 | fr, [], _ => .inr rfl
 | fr, a :: t, h => by
  obtain ⟨n, rfl, g1, g2, g3⟩ := h
  rcases rs_len g3 with h' | rfl
  ·left; simp; omega
  ·left; simp; omega
theorem rs_up {below : Nat} : ∀ {fr : Nat} {t : List Int}, Rs below fr t ↔ (∀ x ∈ t, (fr : Int) ≤ x ∧ x ≤ (below : Int) - 1) ∧ t.Pairwise (· < ·)
 | fr, [] => by simp [Rs]
 | fr, a :: t => by
  rw [List.pairwise_cons]
  constructor
  ·rintro ⟨n, rfl, g1, g2, g3⟩
   obtain ⟨h1, h2⟩ := rs_up.1 g3
   refine ⟨fun x hx => ?_, fun x hx => ?_, h2⟩
   ·rcases List.mem_cons.1 hx with rfl | hx
    ·omega
    ·have := h1 x hx; omega
   ·have := h1 x hx; omega
  ·rintro ⟨h1, h2, h3⟩
   have ha := h1 a List.mem_cons_self
   refine ⟨a.toNat, by omega, by omega, by omega, rs_up.2 ⟨fun x hx => ?_, h3⟩⟩
   have := h1 x (List.mem_cons_of_mem _ hx)
   have := h2 x hx
   omega
theorem rs_upB {below : Nat} {t : List Int} : Rs below 0 t ↔ upB 0 ((below : Int) - 1) t = true := by
 rw [up_iff, rs_up]; rfl
theorem lex_lx : ∀ {a b : List Int}, lexB a b = true → Lx a b
 | x :: a, y :: b, h => by
  unfold lexB at h
  split at h
  ·rename_i e; exact .inr ⟨e, lex_lx h⟩
  ·exact .inl (of_decide_eq_true h)
 | [], b, h => by unfold lexB at h; cases h
 | x :: a, [], h => by unfold lexB at h; cases h
theorem short_some {p : List Int → Bool} {below : Nat} {x : List Int} (h : shortestL p below = some x) : p x = true ∧ Rs below 0 x ∧ ∀ t, Rs below 0 t → p t = true → beforeB t x = false := by
 unfold shortestL at h
 obtain ⟨m, _, hm, h1, h2⟩ := firstN_some h
 rw [← drop_eq'] at h1
 obtain ⟨hp, s, e, hs, hr, hall⟩ := drop_some p below m _ _ _ h1
 rw [List.nil_append] at e
 subst e
 refine ⟨hp, hr, fun t ht hpt => ?_⟩
 unfold beforeB
 split
 ·rename_i hl
  cases hx : lexB t x with
  | false => rfl
  | true => exact absurd (lex_lx hx) (hall t (by omega) ht hpt)
 ·rename_i hl
  refine decide_eq_false fun hlt => ?_
  have := h2 t.length (Nat.zero_le _) (by omega)
  rw [← drop_eq'] at this
  exact drop_some.drop_no p below _ _ _ this t rfl ht hpt
theorem short_none {p : List Int → Bool} {below : Nat} (h : shortestL p below = none) : ∀ t, Rs below 0 t → p t = true → False := by
 intro t ht hpt
 unfold shortestL at h
 have hl : t.length < 0 + (below + 1) := by
  rcases rs_len ht with h' | rfl
  ·omega
  ·simp
 have := firstN_none h t.length (Nat.zero_le _) hl
 rw [← drop_eq'] at this
 exact drop_some.drop_no p below _ _ _ this t rfl ht hpt
theorem fewer_poss {l l' : LLine} (h : Lw l) (h' : Lw l') (hg : l'.gives = l.gives) (h1 : l'.least = l.least) (h2 : l'.most = l.most) (h3 : l'.taps = l.taps) (hc : ∀ c ∈ l'.counts, c ∈ l.counts) (hp : possB l = true) : possB l' = true := by
 obtain ⟨s, hs, ht, f, hf⟩ := (poss_iff h).1 hp
 refine (poss_iff h').2 ⟨s, by rw [hg]; exact hs, by rw [h3]; exact ht, f, ?_⟩
 refine ⟨by rw [hg]; exact hf.pos, hf.top, ?_, fun c hcc => hf.cnt c (hc c hcc)⟩
 intro i hi
 rw [hg] at hi
 have := hf.step i hi
 unfold lowL highL at this ⊢
 rw [hg, h1, h2]
 exact this
end Go.Av.Fx
end
section
namespace Go.Av.Fx
open Go Go.Av Go.Proofs
theorem firstG_some {α : Type} {f : Nat → Option α} : ∀ {r n : Nat} {x : α}, firstG f n r = some x → ∃ i, n ≤ i ∧ i < n + r ∧ f i = some x ∧ ∀ j, n ≤ j → j < i → f j = none
 | 0, n, x, e => by cases e
 | r + 1, n, x, e => by
  rw [show firstG f n (r + 1) = match f n with | some x => some x | none => firstG f (n + 1) r from rfl] at e
  cases hf : f n with
  | some y => simp only [hf] at e; cases e; exact ⟨n, Nat.le_refl _, by omega, hf, fun j h1 h2 => by omega⟩
  | none =>
   simp only [hf] at e
   obtain ⟨i, h1, h2, h3, h4⟩ := firstG_some e
   refine ⟨i, by omega, by omega, h3, fun j h5 h6 => ?_⟩
   by_cases ej : j = n
   ·subst ej; exact hf
   ·exact h4 j (by omega) h6
theorem firstG_none {α : Type} {f : Nat → Option α} : ∀ {r n : Nat}, firstG f n r = none → ∀ j, n ≤ j → j < n + r → f j = none
 | 0, n, e, j, h1, h2 => by omega
 | r + 1, n, e, j, h1, h2 => by
  rw [show firstG f n (r + 1) = match f n with | some x => some x | none => firstG f (n + 1) r from rfl] at e
  cases hf : f n with
  | some y => simp only [hf] at e; cases e
  | none =>
   simp only [hf] at e
   by_cases ej : j = n
   ·subst ej; exact hf
   ·exact firstG_none e j (by omega) (by omega)
theorem row_none {l : LLine} {i : Nat} (h : clashRow l i = none) {k : Nat} (h1 : i < k) (h2 : k < l.counts.length) : possB (twoL l i k) = true := by
 have := firstG_none h k (by omega) (by omega)
 unfold clashAt at this
 split at this
 ·assumption
 ·cases this
theorem clash_none {l : LLine} (h : clashL l = none) {i k : Nat} (h1 : i < k) (h2 : k < l.counts.length) : possB (twoL l i k) = true :=
 row_none (firstG_none h i (Nat.zero_le _) (by omega)) h1 h2
theorem clash_some {l : LLine} {a b : Nat} (h : clashL l = some (a, b)) : a < b ∧ b < l.counts.length ∧ possB (twoL l a b) = false ∧ ∀ i k, i < k → k < l.counts.length → beforeB [(i : Int), (k : Int)] [(a : Int), (b : Int)] = true → possB (twoL l i k) = true := by
 obtain ⟨i, _, h1, h2, h3⟩ := firstG_some h
 obtain ⟨k, h4, h5, h6, h7⟩ := firstG_some h2
 have e : i = a ∧ k = b ∧ possB (twoL l i k) = false := by
  unfold clashAt at h6
  split at h6
  ·cases h6
  ·rename_i hp
   cases h6
   exact ⟨rfl, rfl, by simpa using hp⟩
 obtain ⟨rfl, rfl, hp⟩ := e
 refine ⟨by omega, by omega, hp, fun i' k' g1 g2 g3 => ?_⟩
 unfold beforeB lexB at g3
 rw [if_pos (show [(i' : Int), (k' : Int)].length = [(i : Int), (k : Int)].length from rfl)] at g3
 split at g3
 ·rename_i e
  have e : i' = i := by omega
  subst e
  unfold lexB at g3
  split at g3
  ·unfold lexB at g3; cases g3
  ·have g3 := of_decide_eq_true g3
   have := h7 k' (by omega) (by omega)
   unfold clashAt at this
   split at this
   ·assumption
   ·cases this
 ·have g3 := of_decide_eq_true g3
  exact row_none (h3 i' (Nat.zero_le _) (by omega)) g1 g2
theorem empty_poss {l : LLine} (h : Lw l) (hc : l.counts = []) : possB l = true := by
 refine (poss_iff h).2 ⟨[], mem_setsL.2 (.inl rfl), by have := h.taps; simp; omega, fun p => 400 - gsum l p, ?_⟩
 have hp := h.pts
 refine ⟨fun p hpp => ?_, ?_, fun i hi => ?_, fun c hcc => by rw [hc] at hcc; cases hcc⟩
 ·have := gsum_bd h p; show 0 ≤ 400 - gsum l p; omega
 ·show 400 - gsum l 0 ≤ 400
  have : gsum l 0 = 0 := rfl
  omega
 ·have e : (400 - gsum l i) - (400 - gsum l (i + 1)) = l.gives.getD i 0 := by
   show (400 - gsum l i) - (400 - (gsum l i + l.gives.getD i 0)) = _; omega
  show lowL l [] i ≤ (400 - gsum l i) - (400 - gsum l (i + 1)) ∧ _ ≤ highL l [] i
  rw [e]
  unfold lowL highL
  simp
theorem without_nil (l : LLine) : withoutL l [] = l := by
 have e : keepT l [] l.counts.length = l.counts := by
  unfold keepT
  rw [show ((List.range l.counts.length).filter fun (i : Nat) => !([] : List Int).contains (i : Int)) = List.range l.counts.length from List.filter_eq_self.2 fun i _ => rfl]
  refine List.ext_getElem (by simp) fun i h1 h2 => ?_
  rw [List.getElem_map, List.getElem_range]
  exact getD_at _ h2
 unfold withoutL
 rw [e]
theorem wrong_some {l : LLine} (h : Ln l) : ∃ w, shortestL (fun w => possB (withoutL l w)) l.counts.length = some w ∧ wrongL l = w := by
 cases hs : shortestL (fun w => possB (withoutL l w)) l.counts.length with
 | some w => exact ⟨w, rfl, by unfold wrongL; rw [hs]; rfl⟩
 | none =>
  refine absurd ?_ (fun hh => short_none hs (nl (List.range l.counts.length)) hh ?_)
  ·refine rs_up.2 ⟨fun x hx => ?_, ?_⟩
   ·obtain ⟨i, hi, rfl⟩ := List.mem_map.1 hx
    have := List.mem_range.1 hi; omega
   ·unfold nl
    rw [List.pairwise_map]
    exact (List.pairwise_lt_range (n := l.counts.length)).imp fun h => by omega
  ·refine empty_poss (without_ln h _).lw ?_
   show keepT l _ _ = []
   unfold keepT
   rw [List.map_eq_nil_iff, List.filter_eq_nil_iff]
   intro i hi
   have : (nl (List.range l.counts.length)).contains (i : Int) = true := by
    rw [List.contains_iff_mem]; exact List.mem_map.2 ⟨i, hi, rfl⟩
   rw [this]; decide
theorem wrong_spec {l : LLine} (h : Ln l) : possB (withoutL l (wrongL l)) = true ∧ risingB l (wrongL l) = true ∧ (∀ t, risingB l t = true → possB (withoutL l t) = true → beforeB t (wrongL l) = false) ∧ possB l = decide ((wrongL l).length = 0) := by
 obtain ⟨w, hs, e⟩ := wrong_some h
 rw [e]
 obtain ⟨h1, h2, h3⟩ := short_some hs
 refine ⟨h1, by rw [ris_up]; exact rs_upB.1 h2, fun t ht hp => h3 t (rs_upB.2 (by rw [← ris_up]; exact ht)) hp, ?_⟩
 rw [Bool.eq_iff_iff, decide_eq_true_iff]
 constructor
 ·intro hp
  have := h3 [] trivial (by show possB (withoutL l []) = true; rw [without_nil]; exact hp)
  unfold beforeB at this
  split at this
  ·rename_i hl; exact hl.symm
  ·have := of_decide_eq_false this
   rcases Nat.eq_zero_or_pos w.length with h0 | h0
   ·exact h0
   ·exact absurd (show ([] : List Int).length < w.length from h0) this
 ·intro hl
  have : w = [] := List.length_eq_zero_iff.1 hl
  subst this
  have h1 : possB (withoutL l []) = true := h1
  rw [without_nil] at h1; exact h1
theorem two_mem {l : LLine} {i k : Nat} (hi : i < l.counts.length) (hk : k < l.counts.length) {c : Cnt} (hc : c ∈ (twoL l i k).counts) : c = l.counts[i] ∨ c = l.counts[k] := by
 simp only [twoL, cntAt, getD_at _ hi, getD_at _ hk, List.mem_cons, List.not_mem_nil, or_false] at hc
 exact hc
theorem clash_wrong {l : LLine} (h : Ln l) {a b : Nat} (hc : clashL l = some (a, b)) : possB l = false ∧ ((wrongL l).contains (a : Int) || (wrongL l).contains (b : Int)) = true := by
 obtain ⟨h1, h2, h3, _⟩ := clash_some hc
 have ha : a < l.counts.length := by omega
 have h2l := (two_ln h ha h2).lw
 constructor
 ·cases hp : possB l with
  | false => rfl
  | true =>
   rw [fewer_poss h.lw h2l rfl rfl rfl rfl (fun c hcc => by rcases two_mem ha h2 hcc with rfl | rfl <;> exact List.getElem_mem _) hp] at h3
   cases h3
 ·cases hx : ((wrongL l).contains (a : Int) || (wrongL l).contains (b : Int)) with
  | true => rfl
  | false =>
   rw [Bool.or_eq_false_iff] at hx
   have hin : ∀ i, i < l.counts.length → (wrongL l).contains (i : Int) = false → ∀ hi : i < l.counts.length, l.counts[i] ∈ (withoutL l (wrongL l)).counts := fun i hi hn hi' => by
    refine List.mem_map.2 ⟨i, List.mem_filter.2 ⟨List.mem_range.2 hi, by rw [hn]; rfl⟩, getD_at _ hi⟩
   have := fewer_poss (without_ln h (wrongL l)).lw h2l rfl rfl rfl rfl (fun c hcc => by
    rcases two_mem ha h2 hcc with rfl | rfl
    ·exact hin a ha hx.1 ha
    ·exact hin b h2 hx.2 h2) (wrong_spec h).1
   rw [this] at h3; cases h3
end Go.Av.Fx
end
