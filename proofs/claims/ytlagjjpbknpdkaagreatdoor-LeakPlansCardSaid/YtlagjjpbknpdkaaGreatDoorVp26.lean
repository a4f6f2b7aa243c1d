/- Part 26 of the proof. -/
import Derived.Test.YtlagjjpbknpdkaaGreatDoorVp25
import Derived.Test.YtlagjjpbknpdkaaGreatDoorVp20
import Derived.Test.YtlagjjpbknpdkaaGreatDoorVp23
import Derived.Test.YtlagjjpbknpdkaaGreatDoorVp24
set_option linter.all false
set_option linter.unusedVariables false
set_option linter.unusedSimpArgs false
set_option linter.unusedSectionVars false
open Nat (reduceEqDiff reduceAdd reduceLeDiff)
section
namespace Go.Av.Fx
open Go Go.Av Go.Av.Tb Go.Proofs
theorem Sub.map {α : Type} (f g : α → AV) (h : ∀ a, Sub (f a) (g a)) (L : List α) (n : Nat) (t : Tail) : Sub (.slice (L.map f) n t) (.slice (L.map g) n .unk) := by
 intro c x hx
 generalize hl : L.map f = l at hx
 cases hx with
 | slice _ _ _ b off cap vs hc hk hr he ht =>
  subst hl
  refine .slice _ n .unk b off cap vs hc (fun j hj => hk j (by simpa using hj)) (fun j y hy => ?_) (fun e => by cases e) (fun k e => by cases e)
  rw [List.getElem?_map] at hy
  cases e : L[j]? with
  | none => rw [e] at hy; cases hy
  | some a =>
   rw [e] at hy; cases hy
   exact h a c _ (hr j (f a) (by rw [List.getElem?_map, e]; rfl))
 | sliceNil _ ht =>
  have : L = [] := by simpa using hl
  subst this
  exact .sliceNil .unk (fun k e => by cases e)
theorem askM : askE lineM true = 0 := by simp [askE, kM_line, kM_poss]
theorem okM : okLine lineM := ⟨by decide, by decide⟩
theorem okN : okLine lineN := ⟨by decide, by decide⟩
theorem q1 : PC Tryz.prog 41 [lineA lineN] (.pure (.tuple [.bool false, .int .i64 0])) := by
 have := Possible_pc lineN okN
 rw [kN_line, kN_poss] at this; exact this
theorem q2 : PC Tryz.prog 22 [lineA lineM] (.pure (.tuple [sll [[0], [1], [2]], .int .i64 0])) := by
 have := Sets_pc lineM okM
 unfold setsA at this
 rw [if_pos askM, kM_sets] at this; exact this
theorem q3 : PC Tryz.prog 21 [lineA lineM] (.pure (.tuple [sl [2, 2, 2], .int .i64 0])) := by
 have := Known_pc lineM okM
 unfold knownA at this
 rw [if_pos askM, show lineM.gives.length = 3 from rfl, kM_words] at this; exact this
theorem q4 : PC Tryz.prog 34 [lineA lineM, .int .i64 1] (.pure (.tuple [spA ⟨78, 94⟩, .int .i64 0])) := by
 have := Flows_pc lineM okM 1
 unfold flowsA at this
 rw [show inB 1 0 lineM.gives.length = true from rfl, if_pos askM, show Int.toNat 1 = 1 from rfl, kM_flows] at this; exact this
theorem q5 : PC Tryz.prog 35 [lineA lineM, .int .i64 0, .int .i64 3] (.pure (.tuple [spA ⟨8, 15⟩, .int .i64 0])) := by
 have := Lost_pc lineM okM 0 3
 unfold lostA at this
 rw [show fineLost lineM 0 3 = true from rfl, if_pos askM, show Int.toNat 0 = 0 from rfl, show Int.toNat 3 = 3 from rfl, kM_lost] at this; exact this
theorem q6 : PC Tryz.prog 30 [lineA lineM, sl [1]] (.pure (.tuple [spA ⟨8, 15⟩, .int .i64 0])) := by
 have := Explains_pc lineM okM [1] (by decide)
 unfold explA at this
 rw [if_pos ⟨kM_line, by decide⟩, if_pos (show isSetB lineM [1] = true by decide +kernel)] at this
 have h := kM_expl
 cases hx : explM lineM [1] with
 | none => rw [hx] at h; cases h
 | some W =>
  rw [hx] at h this
  have h : lostS lineM W 0 3 = ⟨8, 15⟩ := by simpa using h
  simp only [show lineM.gives.length = 3 from rfl, h] at this
  exact this
theorem q7 : PC Tryz.prog 43 [lineA lineM, .int .i64 2] (.pure (.tuple [.int .i64 1, .int .i64 2, .int .i64 0])) := by
 have := Next_pc lineM okM 2
 unfold nextA at this
 rw [show inB 2 0 20 = true from rfl, if_pos askM, kM_next] at this; exact this
theorem q8 : PC Tryz.prog 47 [lineA lineM, sl [1, 2], .int .i64 2] (.pure (.tuple [.bool true, .int .i64 0])) := by
 have := Tells_pc lineM okM [1, 2] (by decide) 2
 unfold tellsA at this
 rw [show fineTells lineM [1, 2] 2 = true by decide +kernel, if_pos askM, kM_tells] at this; exact this
theorem q9 : PC Tryz.prog 48 [lineA lineM, .int .i64 2] (.pure (.tuple [sl [1, 2], .int .i64 0])) := by
 have := Plan_pc lineM okM 2
 unfold planA at this
 rw [show inB 2 0 20 = true from rfl, if_pos askM, kM_plan] at this; exact this
theorem q10 : PC Tryz.prog 53 [lineA lineN] (.pure (.tuple [.int .i64 0, .int .i64 2, .int .i64 0])) := by
 have := Clash_pc lineN okN
 unfold clashA at this
 rw [if_pos kN_line, kN_clash] at this; exact this
theorem q11 : PC Tryz.prog 54 [lineA lineN] (.pure (.tuple [sl [0], .int .i64 0])) := by
 have := Wrong_pc lineN okN
 unfold wrongA at this
 rw [if_pos kN_line, kN_wrong] at this; exact this
theorem q12 : PC Tryz.prog 61 [.str exT] (.pure (.tuple [lineA lineT, .int .i64 0])) := by
 have := Read_pc exT (by decide)
 unfold readA at this
 rw [if_pos (by decide), kT] at this
 simp only [if_pos kT_line] at this
 exact this
theorem q13 : PC Tryz.prog 62 [lineA lineT] (.pure (.str exT)) := by
 have := rPrint_pc lineT (isLine_iff.1 kT_line).plain
 rw [kT_text] at this; exact this
@[go_sem] theorem ne42a : binA T .neq 42 (.agg [.int .i64 78, .int .i64 94]) (.agg [.int .i64 78, .int .i64 94]) = some (.bool false) := rfl
@[go_sem] theorem ne42b : binA T .neq 42 (.agg [.int .i64 8, .int .i64 15]) (.agg [.int .i64 8, .int .i64 15]) = some (.bool false) := rfl
set_option maxRecDepth 100000 in
theorem known_pc : PC Tryz.prog 20 [] (.pure (.bool true)) := by
 refine PC.of_empty (AC.run (E_ok _) mix Tryz.func20 m20 rfl rfl rfl (Nat.le_of_ble_eq_true rfl) ?_) rfl rfl
 simp only [go_sem, reduceEqDiff, Nat.reduceBEq, reduceAdd, reduceIte, reduceCtorEq, reduceLeDiff]
 refine cp n73 N_pc (SubL.refl _) ?_
 simp only [go_sem, reduceEqDiff, Nat.reduceBEq, reduceAdd, reduceIte, reduceCtorEq, reduceLeDiff]
 refine cp n41 q1 (SubL.refl _) ?_
 simp only [go_sem, extractA, reduceEqDiff, Nat.reduceBEq, reduceAdd, reduceIte, reduceCtorEq, reduceLeDiff]
 refine cp n74 M_pc (SubL.refl _) ?_
 simp only [go_sem, reduceEqDiff, Nat.reduceBEq, reduceAdd, reduceIte, reduceCtorEq, reduceLeDiff]
 refine cp n22 q2 (SubL.refl _) ?_
 simp only [go_sem, extractA, reduceEqDiff, Nat.reduceBEq, reduceAdd, reduceIte, reduceCtorEq, reduceLeDiff]
 refine cp n74 M_pc (SubL.refl _) ?_
 simp only [go_sem, reduceEqDiff, Nat.reduceBEq, reduceAdd, reduceIte, reduceCtorEq, reduceLeDiff]
 refine cp n21 q3 (SubL.refl _) ?_
 simp only [go_sem, extractA, reduceEqDiff, Nat.reduceBEq, reduceAdd, reduceIte, reduceCtorEq, reduceLeDiff]
 refine cp n74 M_pc (SubL.refl _) ?_
 simp only [go_sem, reduceEqDiff, Nat.reduceBEq, reduceAdd, reduceIte, reduceCtorEq, reduceLeDiff]
 refine cp n34 q4 (SubL.refl _) ?_
 simp only [go_sem, extractA, put_eq, reduceEqDiff, Nat.reduceBEq, reduceAdd, reduceIte, reduceCtorEq, reduceLeDiff]
 refine cp n74 M_pc (SubL.refl _) ?_
 simp only [go_sem, reduceEqDiff, Nat.reduceBEq, reduceAdd, reduceIte, reduceCtorEq, reduceLeDiff]
 refine cp n35 q5 (SubL.refl _) ?_
 simp only [go_sem, extractA, put_eq, reduceEqDiff, Nat.reduceBEq, reduceAdd, reduceIte, reduceCtorEq, reduceLeDiff]
 refine cp n74 M_pc (SubL.refl _) ?_
 simp only [go_sem, reduceEqDiff, Nat.reduceBEq, reduceAdd, reduceIte, reduceCtorEq, reduceLeDiff]
 refine cp n30 q6 (SubL.cons (Sub.refl _) (SubL.cons (Sub.unk _ _ _) (SubL.refl _))) ?_
 simp only [go_sem, extractA, put_eq, reduceEqDiff, Nat.reduceBEq, reduceAdd, reduceIte, reduceCtorEq, reduceLeDiff]
 refine cp n74 M_pc (SubL.refl _) ?_
 simp only [go_sem, reduceEqDiff, Nat.reduceBEq, reduceAdd, reduceIte, reduceCtorEq, reduceLeDiff]
 refine cp n43 q7 (SubL.refl _) ?_
 simp only [go_sem, extractA, reduceEqDiff, Nat.reduceBEq, reduceAdd, reduceIte, reduceCtorEq, reduceLeDiff]
 refine cp n74 M_pc (SubL.refl _) ?_
 simp only [go_sem, reduceEqDiff, Nat.reduceBEq, reduceAdd, reduceIte, reduceCtorEq, reduceLeDiff]
 refine cp n47 q8 (SubL.cons (Sub.refl _) (SubL.cons (Sub.unk _ _ _) (SubL.refl _))) ?_
 simp only [go_sem, extractA, reduceEqDiff, Nat.reduceBEq, reduceAdd, reduceIte, reduceCtorEq, reduceLeDiff]
 refine cp n74 M_pc (SubL.refl _) ?_
 simp only [go_sem, reduceEqDiff, Nat.reduceBEq, reduceAdd, reduceIte, reduceCtorEq, reduceLeDiff]
 refine cp n48 q9 (SubL.refl _) ?_
 simp only [go_sem, extractA, reduceEqDiff, Nat.reduceBEq, reduceAdd, reduceIte, reduceCtorEq, reduceLeDiff]
 refine cp n73 N_pc (SubL.refl _) ?_
 simp only [go_sem, reduceEqDiff, Nat.reduceBEq, reduceAdd, reduceIte, reduceCtorEq, reduceLeDiff]
 refine cp n53 q10 (SubL.refl _) ?_
 simp only [go_sem, extractA, reduceEqDiff, Nat.reduceBEq, reduceAdd, reduceIte, reduceCtorEq, reduceLeDiff]
 refine cp n73 N_pc (SubL.refl _) ?_
 simp only [go_sem, reduceEqDiff, Nat.reduceBEq, reduceAdd, reduceIte, reduceCtorEq, reduceLeDiff]
 refine cp n54 q11 (SubL.refl _) ?_
 simp only [go_sem, extractA, reduceEqDiff, Nat.reduceBEq, reduceAdd, reduceIte, reduceCtorEq, reduceLeDiff]
 refine cp n61 q12 (SubL.refl _) ?_
 have z0 : ¬ ((0 : Int) ≠ 0) := by decide
 simp only [go_sem, extractA, put_eq, z0, decide_false, reduceEqDiff, Nat.reduceBEq, reduceAdd, reduceIte, reduceCtorEq, reduceLeDiff]
 refine cp n26 (SameSets_pc [[0], [1], [2]] [[0], [1], [2]] (by decide) (by decide) (by decide) (by decide)) (SubL.cons (Sub.refl _) (SubL.cons (Sub.map (fun s => .slice (ints s) s.length .exact) sl (fun s => Sub.unk _ _ _) [[0], [1], [2]] 3 .exact) (SubL.refl _))) ?_
 rw [decide_eq_true rfl]
 simp only [go_sem, un_not, Bool.not_true, reduceEqDiff, Nat.reduceBEq, reduceAdd, reduceIte, reduceCtorEq, reduceLeDiff]
 refine cp n24 (SameWords_pc [2, 2, 2] [2, 2, 2] (by decide) (by decide)) (SubL.cons (Sub.refl _) (SubL.cons (Sub.unk _ _ _) (SubL.refl _))) ?_
 rw [decide_eq_true rfl]
 have z1 : decide ((1 : Int) = 1) = true := rfl
 have z2 : decide ((2 : Int) = 2) = true := rfl
 have z3 : decide ((0 : Int) = 0) = true := rfl
 simp only [go_sem, un_not, Bool.not_true, put_eq, z1, z2, z3, decide_true, reduceEqDiff, Nat.reduceBEq, reduceAdd, reduceIte, reduceCtorEq, reduceLeDiff]
 refine cp n50 (Same_pc [1, 2] [1, 2] (by decide) (by decide)) (SubL.cons (Sub.refl _) (SubL.cons (Sub.unk _ _ _) (SubL.refl _))) ?_
 rw [decide_eq_true rfl]
 simp only [go_sem, un_not, Bool.not_true, put_eq, z1, z2, z3, decide_true, reduceEqDiff, Nat.reduceBEq, reduceAdd, reduceIte, reduceCtorEq, reduceLeDiff]
 refine cp n50 (Same_pc [0] [0] (by decide) (by decide)) (SubL.cons (Sub.refl _) (SubL.cons (Sub.unk _ _ _) (SubL.refl _))) ?_
 rw [decide_eq_true rfl]
 simp only [go_sem, un_not, Bool.not_true, put_eq, z1, z2, z3, decide_true, reduceEqDiff, Nat.reduceBEq, reduceAdd, reduceIte, reduceCtorEq, reduceLeDiff]
 refine cp n62 q13 (SubL.refl _) ?_
 have z4 : binA T .eql 9 (.str exT) (.str ⟨#[108, 105, 110, 101, 32, 49, 32, 49, 32, 48, 10, 115, 116, 114, 101, 116, 99, 104, 32, 48, 10, 101, 110, 100, 32, 48, 53, 49, 10]⟩) = some (.bool true) := (show binA T .eql 9 (.str exT) (.str exT) = some (.bool true) by rw [eqS, decide_eq_true rfl])
 simp only [go_sem, z4, Tryz.f20, reduceEqDiff, Nat.reduceBEq, reduceAdd, reduceIte, reduceCtorEq, reduceLeDiff]
end Go.Av.Fx
end
section
namespace Go.Av.Fx
open Go Go.Av Go.Proofs
open Go.Fw (Sq ent Bd Mat Tells Good)
structure Spn (P : (Nat → Int) → Prop) (g : (Nat → Int) → Int) (sp : Span) : Prop where
 bd : ∀ f, P f → sp.low ≤ g f ∧ g f ≤ sp.high
 lo : ∃ f, P f ∧ g f = sp.low
 hi : ∃ f, P f ∧ g f = sp.high
theorem Spn.imp {P Q : (Nat → Int) → Prop} {g : (Nat → Int) → Int} {a : Span} (h : Spn P g a) (e : ∀ f, P f ↔ Q f) : Spn Q g a := by
 obtain ⟨f1, p1, e1⟩ := h.lo
 obtain ⟨f2, p2, e2⟩ := h.hi
 exact ⟨fun f hf => h.bd f ((e f).2 hf), ⟨f1, (e _).1 p1, e1⟩, ⟨f2, (e _).1 p2, e2⟩⟩
theorem Spn.join {P Q : (Nat → Int) → Prop} {g : (Nat → Int) → Int} {a b : Span} (h : Spn P g a) (h' : Spn Q g b) : Spn (fun f => P f ∨ Q f) g (joinS a b) := by
 obtain ⟨f1, p1, e1⟩ := h.lo
 obtain ⟨f2, p2, e2⟩ := h.hi
 obtain ⟨f3, p3, e3⟩ := h'.lo
 obtain ⟨f4, p4, e4⟩ := h'.hi
 unfold joinS
 refine ⟨?_, ?_, ?_⟩
 ·rintro f (hf | hf)
  ·have := h.bd f hf
   constructor
   ·show (if b.low < a.low then b.low else a.low) ≤ _; split <;> omega
   ·show _ ≤ (if b.high > a.high then b.high else a.high); split <;> omega
  ·have := h'.bd f hf
   constructor
   ·show (if b.low < a.low then b.low else a.low) ≤ _; split <;> omega
   ·show _ ≤ (if b.high > a.high then b.high else a.high); split <;> omega
 ·by_cases c : b.low < a.low
  ·exact ⟨f3, .inr p3, by show _ = if b.low < a.low then b.low else a.low; rw [if_pos c]; exact e3⟩
  ·exact ⟨f1, .inl p1, by show _ = if b.low < a.low then b.low else a.low; rw [if_neg c]; exact e1⟩
 ·by_cases c : b.high > a.high
  ·exact ⟨f4, .inr p4, by show _ = if b.high > a.high then b.high else a.high; rw [if_pos c]; exact e4⟩
  ·exact ⟨f2, .inl p2, by show _ = if b.high > a.high then b.high else a.high; rw [if_neg c]; exact e2⟩
theorem Spn.fold {α : Type} {P : α → (Nat → Int) → Prop} {g : (Nat → Int) → Int} {f : α → Span} : ∀ (L : List α) {Q : (Nat → Int) → Prop} {o : Span}, Spn Q g o → (∀ t ∈ L, Spn (P t) g (f t)) →
  Spn (fun x => Q x ∨ ∃ t, t ∈ L ∧ P t x) g (L.foldl (fun o t => joinS o (f t)) o)
 | [], Q, o, h, _ => h.imp fun x => ⟨.inl, fun hx => hx.elim id fun ⟨t, ht, _⟩ => by cases ht⟩
 | t :: L, Q, o, h, hL => by
  refine (Spn.fold L (h.join (hL t List.mem_cons_self)) fun t ht => hL t (List.mem_cons_of_mem _ ht)).imp fun x => ?_
  constructor
  ·rintro ((h | h) | ⟨u, hu, h⟩)
   ·exact .inl h
   ·exact .inr ⟨t, List.mem_cons_self, h⟩
   ·exact .inr ⟨u, List.mem_cons_of_mem _ hu, h⟩
  ·rintro (h | ⟨u, hu, h⟩)
   ·exact .inl (.inl h)
   ·rcases List.mem_cons.1 hu with rfl | hu
    ·exact .inl (.inr h)
    ·exact .inr ⟨u, hu, h⟩
def Fa (l : LLine) (f : Nat → Int) : Prop := ∃ s, s ∈ setsL l.gives.length ∧ (s.length : Int) ≤ l.taps ∧ Fl l s f
theorem poss_len {l : LLine} : possB l = true ↔ 0 < (theftsL l).length := by
 unfold possB; rw [decide_eq_true_iff]
end Go.Av.Fx
end
section
namespace Go.Av.Fx
open Go Go.Av Go.Av.Tb Go.Proofs
def lexB : List Int → List Int → Bool
 | x :: a, y :: b => if x = y then lexB a b else decide (x < y)
 | _, _ => false
def beforeB (a b : List Int) : Bool := if a.length = b.length then lexB a b else decide (a.length < b.length)
theorem lexB_drop : ∀ (a b : List Int) (k : Nat), a.length = b.length → (∀ i (h1 : i < k) (h2 : i < a.length) (h3 : i < b.length), a[i] = b[i]) → lexB a b = lexB (a.drop k) (b.drop k)
 | a, b, 0, _, _ => rfl
 | [], [], k + 1, _, _ => rfl
 | x :: a, y :: b, k + 1, hl, h => by
  have h0 := h 0 (by omega) (by simp) (by simp)
  simp only [List.getElem_cons_zero] at h0
  subst h0
  simp only [lexB, if_true, List.drop_succ_cons]
  exact lexB_drop a b k (by simpa using hl) fun i h1 h2 h3 => by
   have := h (i + 1) (by omega) (by simpa using h2) (by simpa using h3)
   simpa using this
theorem before_pc (a b : List Int) (ha : okL a.length) (hb : okL b.length) : PC Tryz.prog 32 [sl a, sl b] (.pure (.bool (beforeB a b))) := by
 refine PC.of_empty (AC.run (E_ok _) mix Tryz.func32 m32 rfl rfl rfl (Nat.le_of_ble_eq_true rfl) ?_) (by simp [bndL, AV.bnd]) rfl
 unfold beforeB
 by_cases hl : a.length = b.length
 ·have hn : ¬ ((a.length : Int) ≠ b.length) := fun h => h (by omega)
  rw [if_pos hl]
  simp only [go_sem, builtinA, hn, decide_false, reduceEqDiff, Nat.reduceBEq, reduceAdd, reduceIte, reduceCtorEq, reduceLeDiff]
  refine wc_forP a.length (fun k => ∀ i (h1 : i < k) (h2 : i < a.length) (h3 : i < b.length), a[i] = b[i]) (fun k => [(0, sl a), (1, sl b), (5, .int .i64 k)]) (fun _ => St.empty) (fun i hi => absurd hi (Nat.not_lt_zero _)) rfl rfl ?_
  intro k hk hP I hI
  rw [lexB_drop a b k hl hP]
  by_cases h : k < a.length
  ·have h' : (k : Int) < a.length := by omega
   have h2 : 0 ≤ (k : Int) ∧ (k : Int) < a.length := by omega
   have h2' : 0 ≤ (k : Int) ∧ (k : Int) < b.length := by omega
   have hkb : k < b.length := by omega
   have h3 : a[k]? = some a[k] := List.getElem?_eq_getElem h
   have h3' : b[k]? = some b[k] := List.getElem?_eq_getElem hkb
   have h4 : IntKind.i64.wrap ((k : Int) + 1) = (k + 1 : Nat) := wrap64 (by omega)
   by_cases hb : a[k] = b[k]
   ·have hq : ¬ a[k] ≠ b[k] := fun h => h hb
    rw [← lexB_drop a b k hl hP]
    simp only [go_sem, l32_0, builtinA, h', decide_true, h2, h2', ints_get, h3, h3', hq, decide_false, h4, reduceEqDiff, Nat.reduceBEq, reduceAdd, reduceIte, reduceCtorEq, reduceLeDiff]
    refine hI h fun i hi hi2 hi3 => ?_
    by_cases e : i = k
    ·subst e; exact hb
    ·exact hP i (by omega) hi2 hi3
   ·have hd : decide (a[k] ≠ b[k]) = true := decide_eq_true hb
    simp only [go_sem, l32_0, builtinA, h', decide_true, h2, h2', ints_get, h3, h3', hd, Option.map_some, Tryz.f32, reduceEqDiff, Nat.reduceBEq, reduceAdd, reduceIte, reduceCtorEq, reduceLeDiff]
    rw [List.drop_eq_getElem_cons h, List.drop_eq_getElem_cons hkb]
    simp only [lexB, if_neg hb]
  ·have h' : ¬ (k : Int) < a.length := by omega
   simp only [go_sem, l32_0, builtinA, h', decide_false, Tryz.f32, reduceEqDiff, Nat.reduceBEq, reduceAdd, reduceIte, reduceCtorEq, reduceLeDiff]
   rw [List.drop_of_length_le (by omega), lexB]
   exact fun x a y b h => by cases h
 ·have hn : ((a.length : Int) ≠ b.length) := fun h => hl (by omega)
  have hd := decide_eq_true hn
  rw [if_neg hl]
  simp only [go_sem, builtinA, hd, Tryz.f32, reduceEqDiff, Nat.reduceBEq, reduceAdd, reduceIte, reduceCtorEq, reduceLeDiff]
  simp
def ptR (l : LLine) (x : List Int) (i : Nat) : Bool := inB (x.getD i 0) 0 l.gives.length && (decide (i = 0) || decide (x.getD (i - 1) 0 < x.getD i 0))
def ptsR (l : LLine) (x : List Int) : Bool := (List.range x.length).all (ptR l x)
theorem rPoints_pc (l : LLine) (x : List Int) (hs : okL x.length) : PC Tryz.prog 51 [lineA l, sl x] (.pure (.bool (ptsR l x))) := by
 refine PC.of_empty (AC.run (E_ok _) mix Tryz.func51 m51 rfl rfl rfl (Nat.le_of_ble_eq_true rfl) ?_) (by simp [bndL, AV.bnd]) rfl
 simp only [go_sem, boxA, builtinA, reduceEqDiff, Nat.reduceBEq, reduceAdd, reduceIte, reduceCtorEq, reduceLeDiff]
 refine wc_forP x.length (fun k => ∀ i (h1 : i < k), ptR l x i = true) (fun k => [(1, sl x), (2, .ref 0 0), (5, .int .i64 k)]) (fun _ => ⟨[some (.cells (lineC l))], 0, []⟩) (fun i hi => absurd hi (Nat.not_lt_zero _)) rfl rfl ?_
 intro k hk hP I hI
 by_cases h : k < x.length
 ·have h' : (k : Int) < x.length := by omega
  have h2 : 0 ≤ (k : Int) ∧ (k : Int) < x.length := by omega
  have h3 : x[k]? = some (x.getD k 0) := by rw [List.getD_eq_getElem?_getD, List.getElem?_eq_getElem h]; rfl
  have h4 : IntKind.i64.wrap ((k : Int) + 1) = (k + 1 : Nat) := wrap64 (by omega)
  have bad : ptR l x k = false → ptsR l x = false := fun hb => by
   unfold ptsR; rw [List.all_eq_false]; exact ⟨k, List.mem_range.2 h, by rw [hb]; decide⟩
  have good : ptR l x k = true → ∀ i (h1 : i < k + 1), ptR l x i = true := fun hb i hi => by
   by_cases e : i = k
   ·subst e; exact hb
   ·exact hP i (by omega)
  simp only [go_sem, l51_0, builtinA, h', decide_true, h2, ints_get, h3, Option.map_some, reduceEqDiff, Nat.reduceBEq, reduceAdd, reduceIte, reduceCtorEq, reduceLeDiff]
  refine qp n37 (rPoint_pc _ _) (SubL.refl _) ?_
  cases hb : inB (x.getD k 0) 0 l.gives.length
  ·simp only [go_sem, un_not, Bool.not_false, Tryz.f51, reduceEqDiff, Nat.reduceBEq, reduceAdd, reduceIte, reduceCtorEq, reduceLeDiff]
   rw [bad (by unfold ptR; rw [hb]; rfl)]
  ·by_cases hz : k = 0
   ·have hz' : ¬ (k : Int) > 0 := by omega
    simp only [go_sem, un_not, Bool.not_true, hz', decide_false, h4, reduceEqDiff, Nat.reduceBEq, reduceAdd, reduceIte, reduceCtorEq, reduceLeDiff]
    exact hI h (good (by unfold ptR; rw [hb, hz]; rfl))
   ·have hz' : (k : Int) > 0 := by omega
    have w1 : IntKind.i64.wrap ((k : Int) - 1) = (k - 1 : Nat) := by rw [wrap64 (by omega)]; omega
    have w2 : 0 ≤ ((k - 1 : Nat) : Int) ∧ ((k - 1 : Nat) : Int) < x.length := by omega
    have w3 : x[k - 1]? = some (x.getD (k - 1) 0) := by rw [List.getD_eq_getElem?_getD, List.getElem?_eq_getElem (by omega)]; rfl
    by_cases hc : x.getD k 0 ≤ x.getD (k - 1) 0
    ·simp only [go_sem, un_not, Bool.not_true, hz', decide_true, h2, ints_get, h3, w1, w2, w3, Option.map_some, hc, Tryz.f51, reduceEqDiff, Nat.reduceBEq, reduceAdd, reduceIte, reduceCtorEq, reduceLeDiff]
     rw [bad (by unfold ptR; rw [hb, decide_eq_false hz, decide_eq_false (by omega)]; rfl)]
    ·simp only [go_sem, un_not, Bool.not_true, hz', decide_true, h2, ints_get, h3, w1, w2, w3, Option.map_some, hc, decide_false, h4, reduceEqDiff, Nat.reduceBEq, reduceAdd, reduceIte, reduceCtorEq, reduceLeDiff]
     exact hI h (good (by unfold ptR; rw [hb, decide_eq_true (p := x.getD (k - 1) 0 < x.getD k 0) (by omega)]; simp))
 have h' : ¬ (k : Int) < x.length := by omega
 have hs2 : ptsR l x = true := by
  unfold ptsR; rw [List.all_eq_true]; intro i hi; exact hP i (by have := List.mem_range.1 hi; omega)
 rw [hs2]
 simp only [go_sem, l51_0, builtinA, h', decide_false, Tryz.f51, reduceEqDiff, Nat.reduceBEq, reduceAdd, reduceIte, reduceCtorEq, reduceLeDiff]
end Go.Av.Fx
end
section
namespace Go.Av.Fx
open Go Go.Av Go.Proofs
open Go.Fw (Sq ent Bd Mat Tells Good)
theorem mem_setsL {m : Nat} {s : List Int} : s ∈ setsL m ↔ s = [] ∨ (∃ i : Nat, i < m ∧ s = [(i : Int)]) ∨ ∃ i k : Nat, i < k ∧ k < m ∧ s = [(i : Int), (k : Int)] := by
 unfold setsL ones twos twosAt
 simp only [List.mem_cons, List.mem_append, List.mem_map, List.mem_range, List.mem_flatMap]
 constructor
 ·rintro (h | ⟨i, hi, h⟩ | ⟨i, hi, j, hj, h⟩)
  ·exact .inl h
  ·exact .inr (.inl ⟨i, hi, h.symm⟩)
  ·exact .inr (.inr ⟨i, i + 1 + j, by omega, by omega, h.symm⟩)
 ·rintro (h | ⟨i, hi, h⟩ | ⟨i, k, hi, hk, h⟩)
  ·exact .inl h
  ·exact .inr (.inl ⟨i, hi, h.symm⟩)
  ·exact .inr (.inr ⟨i, by omega, k - (i + 1), by omega, by rw [h, show i + 1 + (k - (i + 1)) = k by omega]⟩)
def upB (lo hi : Int) (s : List Int) : Bool := (List.range s.length).all fun i => inB (s.getD i 0) lo hi && (decide (i = 0) || decide (s.getD (i - 1) 0 < s.getD i 0))
theorem up_iff {lo hi : Int} {s : List Int} : upB lo hi s = true ↔ (∀ x ∈ s, lo ≤ x ∧ x ≤ hi) ∧ s.Pairwise (· < ·) := by
 unfold upB
 rw [List.all_eq_true]
 constructor
 ·intro h
  have h' : ∀ i (hi' : i < s.length), (lo ≤ s[i] ∧ s[i] ≤ hi) ∧ (i = 0 ∨ s.getD (i - 1) 0 < s[i]) := fun i hi' => by
   have := h i (List.mem_range.2 hi')
   rw [Bool.and_eq_true, inB_iff, Bool.or_eq_true, decide_eq_true_iff, decide_eq_true_iff, getD_at _ hi'] at this
   exact this
  refine ⟨fun x hx => ?_, ?_⟩
  ·obtain ⟨i, hi', rfl⟩ := List.mem_iff_getElem.1 hx
   exact (h' i hi').1
  ·rw [List.pairwise_iff_getElem]
   intro i j hi' hj hij
   induction j with
   | zero => omega
   | succ j ih =>
    have h1 := (h' (j + 1) hj).2
    have h2 : s.getD (j + 1 - 1) 0 = s[j]'(by omega) := by rw [Nat.add_sub_cancel]; exact getD_at _ (by omega)
    rw [h2] at h1
    by_cases e : i = j
    ·subst e; omega
    ·have := ih (by omega) (by omega); omega
 ·rintro ⟨h1, h2⟩ i hi'
  have hi' := List.mem_range.1 hi'
  rw [Bool.and_eq_true, inB_iff, Bool.or_eq_true, decide_eq_true_iff, decide_eq_true_iff, getD_at _ hi']
  refine ⟨h1 _ (List.getElem_mem hi'), ?_⟩
  by_cases e : i = 0
  ·exact .inl e
  ·refine .inr ?_
   rw [getD_at _ (by omega : i - 1 < s.length)]
   exact List.pairwise_iff_getElem.1 h2 (i - 1) i (by omega) hi' (by omega)
theorem isSet_up (l : LLine) (s : List Int) : isSetB l s = upB 0 (l.gives.length - 1) s := rfl
theorem pts_up (l : LLine) (s : List Int) : ptsR l s = upB 0 l.gives.length s := rfl
theorem isPts_up (l : LLine) (s : List Int) : isPtsB l s = upB 0 l.gives.length s := rfl
theorem set_mem {l : LLine} {s : List Int} (h1 : isSetB l s = true) (h2 : s.length ≤ 2) : s ∈ setsL l.gives.length := by
 rw [isSet_up, up_iff] at h1
 obtain ⟨h1, h3⟩ := h1
 rw [mem_setsL]
 match s, h2 with
 | [], _ => exact .inl rfl
 | [a], _ =>
  have := h1 a List.mem_cons_self
  exact .inr (.inl ⟨a.toNat, by omega, by rw [Int.toNat_of_nonneg this.1]⟩)
 | [a, b], _ =>
  have ha := h1 a List.mem_cons_self
  have hb := h1 b (List.mem_cons_of_mem _ List.mem_cons_self)
  have hab : a < b := by
   have := List.pairwise_cons.1 h3
   exact this.1 b List.mem_cons_self
  exact .inr (.inr ⟨a.toNat, b.toNat, by omega, by omega, by rw [Int.toNat_of_nonneg ha.1, Int.toNat_of_nonneg hb.1]⟩)
def tapL (t : Truth) : List Int := ((List.range t.losses.length).filter fun i => decide (t.losses.getD i 0 > 0)).map fun (i : Nat) => (i : Int)
theorem mem_tapL {t : Truth} {i : Nat} : (i : Int) ∈ tapL t ↔ t.losses.getD i 0 > 0 := by
 unfold tapL
 simp only [List.mem_map, List.mem_filter, List.mem_range, decide_eq_true_iff]
 constructor
 ·rintro ⟨j, ⟨_, hj⟩, e⟩
  rw [show i = j by omega]; exact hj
 ·intro h
  refine ⟨i, ⟨?_, h⟩, rfl⟩
  rcases Nat.lt_or_ge i t.losses.length with h' | h'
  ·exact h'
  ·rw [List.getD_eq_getElem?_getD, List.getElem?_eq_none h'] at h
   simp at h
theorem tapL_has (t : Truth) (i : Nat) : (tapL t).contains (i : Int) = decide (t.losses.getD i 0 > 0) := by
 rw [Bool.eq_iff_iff, List.contains_iff_mem, mem_tapL, decide_eq_true_iff]
theorem tapL_up (t : Truth) : (tapL t).Pairwise (· < ·) := by
 unfold tapL
 rw [List.pairwise_map]
 exact ((List.pairwise_lt_range (n := t.losses.length)).filter _).imp fun h => by omega
theorem tapL_len (t : Truth) : (tapL t).length = tappedT t t.losses.length := by
 unfold tapL
 rw [List.length_map]
 induction t.losses.length with
 | zero => rfl
 | succ n ih =>
  rw [List.range_succ, List.filter_append, List.length_append, ih]
  show _ = (if t.losses.getD n 0 > 0 then tappedT t n + 1 else tappedT t n)
  rw [List.filter_cons, List.filter_nil]
  by_cases g : t.losses.getD n 0 > 0
  ·rw [if_pos g, decide_eq_true g, if_pos rfl]; rfl
  ·rw [if_neg g, decide_eq_false g, if_neg (by decide)]; rfl
theorem tapL_set {l : LLine} {t : Truth} (ht : truthB l t = true) : isSetB l (tapL t) = true := by
 unfold truthB at ht
 simp only [Bool.and_eq_true, decide_eq_true_iff] at ht
 rw [isSet_up, up_iff]
 refine ⟨fun x hx => ?_, tapL_up t⟩
 unfold tapL at hx
 simp only [List.mem_map, List.mem_filter, List.mem_range] at hx
 obtain ⟨i, ⟨hi, _⟩, rfl⟩ := hx
 omega
theorem truth_loss2 {l : LLine} {t : Truth} (ht : truthB l t = true) (i : Nat) : t.losses.getD i 0 = 0 ∨ (l.least ≤ t.losses.getD i 0 ∧ t.losses.getD i 0 ≤ l.most) := by
 unfold truthB at ht
 simp only [Bool.and_eq_true, Bool.not_eq_true', List.any_eq_false] at ht
 have h3 := ht.2.2
 rw [List.getD_eq_getElem?_getD]
 cases hx : t.losses[i]? with
 | none => exact .inl rfl
 | some g =>
  have := h3 g (List.mem_of_getElem? hx)
  simp only [Option.getD_some]
  by_cases hg : g = 0
  ·exact .inl hg
  ·right
   simp [lossBad, hg, inB] at this
   exact this
theorem fits_iff {l : LLine} (h : Lw l) {t : Truth} (ht : truthB l t = true) : fitsT l t = true ↔ ((tapL t).length : Int) ≤ l.taps ∧ Fl l (tapL t) (flowT l t) := by
 have htl := ht
 unfold truthB at htl
 simp only [Bool.and_eq_true, decide_eq_true_iff] at htl
 have hlen : t.losses.length = l.gives.length := by omega
 have hin := inB_iff.1 htl.1
 have hmono : ∀ {b a : Nat}, a ≤ b → tappedT t a ≤ tappedT t b := by
  intro b
  induction b with
  | zero => intro a hab; rw [show a = 0 by omega]; exact Nat.le_refl _
  | succ b ih =>
   intro a hab
   by_cases e : a = b + 1
   ·rw [e]; exact Nat.le_refl _
   ·refine Nat.le_trans (ih (a := a) (by omega)) ?_
    show _ ≤ (if t.losses.getD b 0 > 0 then tappedT t b + 1 else tappedT t b)
    split <;> omega
 unfold fitsT
 rw [List.all_eq_true, tapL_len, hlen]
 constructor
 ·intro hall
  have hp : ∀ p, p ≤ l.gives.length → 0 ≤ flowT l t p ∧ (tappedT t p : Int) ≤ l.taps ∧ wrongT l t p = false := fun p hp => by
   have := hall p (List.mem_range.2 (by omega))
   unfold badT at this
   simp only [Bool.not_eq_true', Bool.or_eq_false_iff, decide_eq_false_iff_not] at this
   exact ⟨by omega, by omega, this.2.2⟩
  refine ⟨(hp _ (Nat.le_refl _)).2.1, fun p hp' => (hp p hp').1, by show t.inflow ≤ 400; omega, fun i hi => ?_, fun c hc => ?_⟩
  ·have e : flowT l t i - flowT l t (i + 1) = l.gives.getD i 0 + t.losses.getD i 0 := by
    show flowT l t i - (flowT l t i - (l.gives.getD i 0 + t.losses.getD i 0)) = _; omega
   rw [e]
   have := truth_loss2 ht i
   have hle := h.least
   unfold lowL highL
   rw [tapL_has]
   by_cases g : t.losses.getD i 0 > 0
   ·rw [decide_eq_true g, if_pos rfl, if_pos rfl]; omega
   ·rw [decide_eq_false g, if_neg (by decide), if_neg (by decide)]; omega
  ·have hcc := h.counts c hc
   have hw := (hp c.point.toNat (by omega)).2.2
   unfold wrongT at hw
   rw [List.any_eq_false] at hw
   have := hw c hc
   rw [Bool.and_eq_true, decide_eq_true_iff, Bool.not_eq_true'] at this
   have h2 : inB (flowT l t c.point.toNat) c.low c.high = true := by
    cases hb : inB (flowT l t c.point.toNat) c.low c.high with
    | true => rfl
    | false => exact absurd ⟨by omega, hb⟩ this
   exact inB_iff.1 h2
 ·rintro ⟨h1, hf⟩ p hp
  have hp := List.mem_range.1 hp
  unfold badT
  simp only [Bool.not_eq_true', Bool.or_eq_false_iff, decide_eq_false_iff_not]
  have h2 := hf.pos p (by omega)
  have h3 := hmono (a := p) (b := l.gives.length) (by omega)
  refine ⟨by omega, by omega, ?_⟩
  unfold wrongT
  rw [List.any_eq_false]
  intro c hc
  rw [Bool.and_eq_true, decide_eq_true_iff, Bool.not_eq_true']
  rintro ⟨e, hb⟩
  have h4 := hf.cnt c hc
  rw [show c.point.toNat = p by omega] at h4
  rw [inB_iff.2 h4] at hb; cases hb
theorem fits_mem {l : LLine} (h : Lw l) {t : Truth} (ht : truthB l t = true) (hf : fitsT l t = true) : tapL t ∈ setsOut l ∧ Fa l (flowT l t) := by
 obtain ⟨h1, h2⟩ := (fits_iff h ht).1 hf
 have h3 := h.taps
 have hs := set_mem (tapL_set ht) (by omega)
 exact ⟨(mem_setsOut h).2 ⟨hs, h1, _, h2⟩, _, hs, h1, h2⟩
end Go.Av.Fx
end
section
namespace Go.Av.Fx
open Go Go.Av Go.Proofs
open Go.Fw (Sq ent Bd Mat Tells Good)
theorem poss_out {l : LLine} : possB l = true ↔ 0 < (setsOut l).length := by
 rw [setsOut_len]; exact poss_len
end Go.Av.Fx
end
section
namespace Go.Av.Fx
open Go Go.Av Go.Av.Tb Go.Proofs
end Go.Av.Fx
end
section
namespace Go.Av.Fx
open Go Go.Av Go.Av.Tb Go.Proofs
end Go.Av.Fx
end
section
namespace Go.Av.Fx
open Go Go.Av Go.Av.Tb Go.Proofs
end Go.Av.Fx
end
section
namespace Go.Av.Fx
open Go Go.Av Go.Av.Tb Go.Proofs
end Go.Av.Fx
end
section
namespace Go.Av.Fx
open Go Go.Av Go.Av.Tb Go.Proofs
def dropM (p : List Int → Bool) (below : Nat) : Nat → List Int → Nat → Option (List Int)
 | 0, now, _ => if p now = true then some now else none
 | m + 1, now, fr => firstN (fun n => dropM p below m (now ++ [(n : Int)]) (n + 1)) fr (below - fr)
theorem firstN_more {f : Nat → Option (List Int)} (s : Nat) : ∀ (r n : Nat), (∀ i, n + r ≤ i → i < n + r + s → f i = none) → firstN f n (r + s) = firstN f n r
 | 0, n, h => by
  rw [Nat.zero_add]
  induction s generalizing n with
  | zero => rfl
  | succ s ih =>
   unfold firstN
   rw [h n (by omega) (by omega)]
   exact ih (n + 1) fun i h1 h2 => h i (by omega) (by omega)
 | r + 1, n, h => by
  rw [show r + 1 + s = (r + s) + 1 by omega]
  unfold firstN
  cases f n with
  | some x => rfl
  | none => exact firstN_more s r (n + 1) fun i h1 h2 => h i (by omega) (by omega)
theorem search_none {p : List Int → Bool} {below m : Nat} {now : List Int} {fr : Nat} (h : below < fr + m) (hm : 0 < m) : searchL p below m now fr = none := by
 cases m with
 | zero => omega
 | succ m =>
  unfold searchL
  rw [show below + 1 - (fr + (m + 1)) = 0 by omega]; rfl
theorem drop_eq' (p : List Int → Bool) (below : Nat) : ∀ (m : Nat) (now : List Int) (fr : Nat), dropM p below m now fr = searchL p below m now fr
 | 0, now, fr => rfl
 | m + 1, now, fr => by
  unfold dropM searchL
  have e : (fun n : Nat => dropM p below m (now ++ [(n : Int)]) (n + 1)) = fun n : Nat => searchL p below m (now ++ [(n : Int)]) (n + 1) := by
   funext n; exact drop_eq' p below m _ _
  rw [e]
  obtain ⟨s, hs⟩ : ∃ s, below - fr = (below + 1 - (fr + (m + 1))) + s := ⟨below - fr - (below + 1 - (fr + (m + 1))), by omega⟩
  rw [hs]
  refine firstN_more s _ _ fun i h1 h2 => ?_
  exact search_none (by omega) (by omega)
def dropA (p : List Int → Bool) (below m : Nat) (now : List Int) (fr : Nat) : AV := match m with
 | 0 => .tuple [sl now, .bool (p now)]
 | m + 1 => match dropM p below (m + 1) now fr with
  | some r => .tuple [sl r, .bool true]
  | none => .tuple [sl [], .bool false]
theorem app_nil22 {S : St} {l : List Int} {t : Tail} (h0 : 0 < l.length) (hl : l.length ≤ 1000) : appendA T S 22 .nilS (.slice (ints l) l.length t) = some (.tok none fun j => .slice (ints l) l.length (.tok j)) := by
 have h1 : descOf T 22 = some (.slice 3) := rfl
 have h2 : T 3 = some ti3 := rfl
 have h3 : ti3.size = 1 := rfl
 have h4 : ti3.bytes = 8 := rfl
 have h5 : heldA S 1 (.slice (ints l) l.length t) = some (ints l, l.length) := by
  show (if (ints l).length = l.length * 1 then some (ints l, l.length) else none) = _
  rw [if_pos (by rw [ints_len]; omega)]
 unfold appendA
 simp only [h1, h2, h3, h4, h5, ints_all, Bool.not_true, Bool.false_eq_true, if_false]
 rw [if_neg (by decide), if_neg (by omega), if_pos (by omega)]
theorem app_tok22 {S : St} {l : List Int} {c : Int} {k : Nat} (hl : l.length ≤ 1000) : appendA T S 22 (.slice (ints l) l.length (.tok k)) (.slice [.int .i64 c] 1 .exact) = some (.tok (some k) fun j => .slice (ints (l ++ [c])) (l.length + 1) (.tok j)) := by
 rw [app_gen (e := 3) (ei := ti3) (lx := [.int .i64 c]) (nx := 1) rfl rfl (by decide) rfl (by decide) rfl (by show (l.length + 1) * 8 ≤ _; omega) (by omega) (by rw [ints_len]; simp [ti3])]
 show some (Res.tok (some k) fun j => .slice (ints l ++ ints [c]) (l.length + 1) (.tok j)) = _
 have : ints l ++ ints [c] = ints (l ++ [c]) := by simp [ints]
 rw [this]
theorem sl_snoc {l : List Int} {c : Int} {j : Nat} : Sub (.slice (ints (l ++ [c])) (l.length + 1) (.tok j)) (sl (l ++ [c])) := by
 have e : (l ++ [c]).length = l.length + 1 := by simp
 show Sub _ (.slice (ints (l ++ [c])) (l ++ [c]).length .unk)
 rw [e]; exact Sub.unk _ _ _
theorem firstN_step (f : Nat → Option (List Int)) (n r : Nat) : firstN f n (r + 1) = match f n with | some x => some x | none => firstN f (n + 1) r := rfl
end Go.Av.Fx
end
section
namespace Go.Av.Fx
open Go Go.Av Go.Av.Tb Go.Proofs
end Go.Av.Fx
end
section
namespace Go.Av.Fx
open Go Go.Av Go.Av.Tb Go.Proofs
end Go.Av.Fx
end
section
namespace Go.Av.Fx
open Go Go.Av Go.Proofs
def Lx : List Int → List Int → Prop
 | a :: s, b :: t => a < b ∨ (a = b ∧ Lx s t)
 | _, _ => False
def Rs (below : Nat) : Nat → List Int → Prop
 | _, [] => True
 | fr, a :: s => ∃ n : Nat, a = n ∧ fr ≤ n ∧ n < below ∧ Rs below (n + 1) s
theorem firstN_some {f : Nat → Option (List Int)} : ∀ {r n : Nat} {x : List Int}, firstN f n r = some x → ∃ i, n ≤ i ∧ i < n + r ∧ f i = some x ∧ ∀ j, n ≤ j → j < i → f j = none
 | 0, n, x, e => by cases e
 | r + 1, n, x, e => by
  rw [firstN_step] at e
  cases hf : f n with
  | some y => simp only [hf] at e; cases e; exact ⟨n, Nat.le_refl _, by omega, hf, fun j h1 h2 => by omega⟩
  | none =>
   simp only [hf] at e
   obtain ⟨i, h1, h2, h3, h4⟩ := firstN_some e
   refine ⟨i, by omega, by omega, h3, fun j h5 h6 => ?_⟩
   by_cases ej : j = n
   ·subst ej; exact hf
   ·exact h4 j (by omega) h6
theorem firstN_none {f : Nat → Option (List Int)} : ∀ {r n : Nat}, firstN f n r = none → ∀ j, n ≤ j → j < n + r → f j = none
 | 0, n, e, j, h1, h2 => by omega
 | r + 1, n, e, j, h1, h2 => by
  rw [firstN_step] at e
  cases hf : f n with
  | some y => simp only [hf] at e; cases e
  | none =>
   simp only [hf] at e
   by_cases ej : j = n
   ·subst ej; exact hf
   ·exact firstN_none e j (by omega) (by omega)
theorem drop_some (p : List Int → Bool) (below : Nat) : ∀ (m : Nat) (now : List Int) (fr : Nat) (x : List Int), dropM p below m now fr = some x →
  p x = true ∧ ∃ s, x = now ++ s ∧ s.length = m ∧ Rs below fr s ∧ ∀ t, t.length = m → Rs below fr t → p (now ++ t) = true → ¬ Lx t s
 | 0, now, fr, x, e => by
  unfold dropM at e
  split at e
  ·cases e
   rename_i h
   exact ⟨h, [], by simp, rfl, trivial, fun t _ _ _ hx => by cases t <;> exact hx⟩
  ·cases e
 | m + 1, now, fr, x, e => by
  unfold dropM at e
  obtain ⟨i, h1, h2, h3, h4⟩ := firstN_some e
  obtain ⟨hp, s, e1, e2, e3, e4⟩ := drop_some p below m _ _ _ h3
  refine ⟨hp, (i : Int) :: s, by rw [e1]; simp, by simp [e2], ⟨i, rfl, h1, by omega, e3⟩, fun t ht hr hpt hx => ?_⟩
  cases t with
  | nil => cases ht
  | cons a t =>
   obtain ⟨n, rfl, g1, g2, g3⟩ := hr
   have hnt : now ++ (n : Int) :: t = (now ++ [(n : Int)]) ++ t := by simp
   rw [hnt] at hpt
   have htl : t.length = m := by simpa using ht
   rcases hx with hx | ⟨hx, hx2⟩
   ·have hn := h4 n g1 (by omega)
    exact drop_no p below m _ _ hn t htl g3 hpt
   ·have : n = i := by omega
    subst this
    exact e4 t htl g3 hpt hx2
where
 drop_no (p : List Int → Bool) (below : Nat) : ∀ (m : Nat) (now : List Int) (fr : Nat), dropM p below m now fr = none → ∀ t, t.length = m → Rs below fr t → p (now ++ t) = true → False
  | 0, now, fr, e, t, ht, hr, hp => by
   have : t = [] := List.length_eq_zero_iff.1 ht
   subst this
   rw [List.append_nil] at hp
   unfold dropM at e
   rw [if_pos hp] at e; cases e
  | m + 1, now, fr, e, t, ht, hr, hp => by
   cases t with
   | nil => cases ht
   | cons a t =>
    obtain ⟨n, rfl, g1, g2, g3⟩ := hr
    have hnt : now ++ (n : Int) :: t = (now ++ [(n : Int)]) ++ t := by simp
    rw [hnt] at hp
    unfold dropM at e
    exact drop_no p below m _ _ (firstN_none e n g1 (by omega)) t (by simpa using ht) g3 hp
theorem rs_len {below : Nat} : ∀ {fr : Nat} {t : List Int}, Rs below fr t → t.length + fr ≤ below ∨ t = []
 | fr, [], _ => .inr rfl
 | fr, a :: t, h => by
  obtain ⟨n, rfl, g1, g2, g3⟩ := h
  rcases rs_len g3 with h' | rfl
  ·left; simp; omega
  ·left; simp; omega
theorem rs_up {below : Nat} : ∀ {fr : Nat} {t : List Int}, Rs below fr t ↔ (∀ x ∈ t, (fr : Int) ≤ x ∧ x ≤ (below : Int) - 1) ∧ t.Pairwise (· < ·)
 | fr, [] => by simp [Rs]
 | fr, a :: t => by
  rw [List.pairwise_cons]
  constructor
  ·rintro ⟨n, rfl, g1, g2, g3⟩
   obtain ⟨h1, h2⟩ := rs_up.1 g3
   refine ⟨fun x hx => ?_, fun x hx => ?_, h2⟩
   ·rcases List.mem_cons.1 hx with rfl | hx
    ·omega
    ·have := h1 x hx; omega
   ·have := h1 x hx; omega
  ·rintro ⟨h1, h2, h3⟩
   have ha := h1 a List.mem_cons_self
   refine ⟨a.toNat, by omega, by omega, by omega, rs_up.2 ⟨fun x hx => ?_, h3⟩⟩
   have := h1 x (List.mem_cons_of_mem _ hx)
   have := h2 x hx
   omega
theorem rs_upB {below : Nat} {t : List Int} : Rs below 0 t ↔ upB 0 ((below : Int) - 1) t = true := by
 rw [up_iff, rs_up]; rfl
theorem lex_lx : ∀ {a b : List Int}, lexB a b = true → Lx a b
 | x :: a, y :: b, h => by
  unfold lexB at h
  split at h
  ·rename_i e; exact .inr ⟨e, lex_lx h⟩
  ·exact .inl (of_decide_eq_true h)
 | [], b, h => by unfold lexB at h; cases h
 | x :: a, [], h => by unfold lexB at h; cases h
theorem short_some {p : List Int → Bool} {below : Nat} {x : List Int} (h : shortestL p below = some x) : p x = true ∧ Rs below 0 x ∧ ∀ t, Rs below 0 t → p t = true → beforeB t x = false := by
 unfold shortestL at h
 obtain ⟨m, _, hm, h1, h2⟩ := firstN_some h
 rw [← drop_eq'] at h1
 obtain ⟨hp, s, e, hs, hr, hall⟩ := drop_some p below m _ _ _ h1
 rw [List.nil_append] at e
 subst e
 refine ⟨hp, hr, fun t ht hpt => ?_⟩
 unfold beforeB
 split
 ·rename_i hl
  cases hx : lexB t x with
  | false => rfl
  | true => exact absurd (lex_lx hx) (hall t (by omega) ht hpt)
 ·rename_i hl
  refine decide_eq_false fun hlt => ?_
  have := h2 t.length (Nat.zero_le _) (by omega)
  rw [← drop_eq'] at this
  exact drop_some.drop_no p below _ _ _ this t rfl ht hpt
theorem short_none {p : List Int → Bool} {below : Nat} (h : shortestL p below = none) : ∀ t, Rs below 0 t → p t = true → False := by
 intro t ht hpt
 unfold shortestL at h
 have hl : t.length < 0 + (below + 1) := by
  rcases rs_len ht with h' | rfl
  ·omega
  ·simp
 have := firstN_none h t.length (Nat.zero_le _) hl
 rw [← drop_eq'] at this
 exact drop_some.drop_no p below _ _ _ this t rfl ht hpt
end Go.Av.Fx
end
section
namespace Go.Av.Fx
open Go Go.Av Go.Proofs
theorem rs_pts {l : LLine} {t : List Int} : Rs (l.gives.length + 1) 0 t ↔ isPtsB l t = true := by
 rw [rs_upB, isPts_up, show (((l.gives.length + 1 : Nat) : Int) - 1) = l.gives.length by omega]
theorem plan_some {l : LLine} {off : Int} {x : List Int} (h : planL l off = some x) : tellsB l (theftsL l) x off = true ∧ isPtsB l x = true ∧ ∀ t, isPtsB l t = true → tellsB l (theftsL l) t off = true → beforeB t x = false := by
 obtain ⟨h1, h2, h3⟩ := short_some h
 exact ⟨h1, rs_pts.1 h2, fun t ht => h3 t (rs_pts.2 ht)⟩
theorem plan_none {l : LLine} {off : Int} (h : planL l off = none) (t : List Int) (ht : isPtsB l t = true) (hp : tellsB l (theftsL l) t off = true) : False :=
 short_none h t (rs_pts.2 ht) hp
theorem tells_apart {l : LLine} (h : Lw l) {pts : List Int} (hp : PtsIn l pts) {off : Int} (ho : 0 ≤ off ∧ off ≤ 20) (ht : tellsB l (theftsL l) pts off = true) {a b : List Int} (ha : a ∈ setsOut l) (hb : b ∈ setsOut l) (hne : a ≠ b) {f g : Nat → Int} (hf : Fl l a f) (hg : Fl l b g) :
  ∃ p ∈ pts, 2 * off < g p.toNat - f p.toNat ∨ 2 * off < f p.toNat - g p.toNat := by
 refine Classical.byContradiction fun hno => ?_
 have hn : Near l a b pts off := ⟨f, g, hf, hg, fun p hp' => by
  refine ⟨?_, ?_⟩
  ·refine Int.not_lt.1 fun hh => hno ⟨p, hp', .inl hh⟩
  ·refine Int.not_lt.1 fun hh => hno ⟨p, hp', .inr hh⟩⟩
 have htell := (tells_iff h hp ho).1 ht
 obtain ⟨i, hi, rfl⟩ := List.mem_iff_getElem.1 ha
 obtain ⟨k, hk, rfl⟩ := List.mem_iff_getElem.1 hb
 have ei : (setsOut l).getD i [] = (setsOut l)[i] := getD_at _ hi
 have ek : (setsOut l).getD k [] = (setsOut l)[k] := getD_at _ hk
 rcases Nat.lt_trichotomy i k with g1 | g1 | g1
 ·exact htell k i g1 hk (by rw [ei, ek]; exact hn.swap)
 ·subst g1; exact hne rfl
 ·exact htell i k g1 hi (by rw [ei, ek]; exact hn)
theorem tells_more {l : LLine} (h : Lw l) {pts : List Int} {m : Int} (hp : PtsIn l (pts ++ [m])) {off : Int} (ho : 0 ≤ off ∧ off ≤ 20) (ht : tellsB l (theftsL l) pts off = true) : tellsB l (theftsL l) (pts ++ [m]) off = true := by
 have hp1 : PtsIn l pts := fun p hp' => hp p (List.mem_append_left _ hp')
 rw [tells_iff h hp ho]
 intro i k hk hi ⟨f, g, hf, hg, hn⟩
 exact (tells_iff h hp1 ho).1 ht i k hk hi ⟨f, g, hf, hg, fun p hp' => hn p (List.mem_append_left _ hp')⟩
theorem pts_more {l : LLine} {pts : List Int} {m : Int} (h : isPtsB l pts = true) (hm : 0 ≤ m ∧ m ≤ l.gives.length) (hl : pts.length = 0 ∨ pts.getD (pts.length - 1) 0 < m) : isPtsB l (pts ++ [m]) = true := by
 rw [isPts_up, up_iff] at h ⊢
 refine ⟨fun x hx => ?_, List.pairwise_append.2 ⟨h.2, List.pairwise_singleton _ _, fun x hx y hy => ?_⟩⟩
 ·rcases List.mem_append.1 hx with hx | hx
  ·exact h.1 x hx
  ·rw [List.mem_singleton] at hx; subst hx; exact hm
 ·rw [List.mem_singleton] at hy
  subst hy
  obtain ⟨i, hi, rfl⟩ := List.mem_iff_getElem.1 hx
  rcases hl with hl | hl
  ·omega
  rw [getD_at 0 (by omega)] at hl
  by_cases e : i = pts.length - 1
  ·subst e; exact hl
  ·have := List.pairwise_iff_getElem.1 h.2 i (pts.length - 1) hi (by omega) (by omega)
   omega
def apartAt (l : LLine) (s t : Truth) (off p : Int) : Bool := decide (flowT l s p.toNat - flowT l t p.toNat > 2 * off) || decide (-(flowT l s p.toNat - flowT l t p.toNat) > 2 * off)
def apartB (l : LLine) (s t : Truth) (off : Int) (pts : List Int) : Bool := pts.any (apartAt l s t off)
theorem apart_yes {l : LLine} (h : Lw l) {pts : List Int} (hp : PtsIn l pts) {off : Int} (ho : 0 ≤ off ∧ off ≤ 20) (ht : tellsB l (theftsL l) pts off = true) {s t : Truth} (hs : truthB l s = true) (hs2 : fitsT l s = true) (ht1 : truthB l t = true) (ht2 : fitsT l t = true) (hne : tapL s ≠ tapL t) :
  apartB l s t off pts = true := by
 obtain ⟨p, hp1, hp2⟩ := tells_apart h hp ho ht (fits_mem h hs hs2).1 (fits_mem h ht1 ht2).1 hne ((fits_iff h hs).1 hs2).2 ((fits_iff h ht1).1 ht2).2
 unfold apartB
 rw [List.any_eq_true]
 refine ⟨p, hp1, ?_⟩
 unfold apartAt
 rw [Bool.or_eq_true, decide_eq_true_iff, decide_eq_true_iff]
 omega
theorem fits_poss {l : LLine} (h : Lw l) {t : Truth} (ht : truthB l t = true) (hf : fitsT l t = true) : possB l = true :=
 poss_out.2 (List.length_pos_of_mem (fits_mem h ht hf).1)
end Go.Av.Fx
end
section
namespace Go.Av.Fx
open Go Go.Av Go.Av.Tb Go.Proofs
theorem Tapped_pc (t : Truth) (hl : t.losses.length ≤ 1000) : PC Tryz.prog 67 [.agg (trC t)] (.pure (sl (tapL t))) := by
 refine PC.of_frz (AC.run (E_ok _) mix Tryz.func67 m67 rfl rfl rfl (Nat.le_of_ble_eq_true rfl) ?_) (by simp [bndL, AV.bnd]) (by simp [AV.bnd])
 simp only [go_sem, boxA, reduceEqDiff, Nat.reduceBEq, reduceAdd, reduceIte, reduceCtorEq, reduceLeDiff]
 obtain ⟨g, hg⟩ : ∃ g : Nat → List Int, ∀ k, g k = ((List.range k).filter fun i => decide (t.losses.getD i 0 > 0)).map fun (i : Nat) => (i : Int) := ⟨_, fun _ => rfl⟩
 have hgl : ∀ k, (g k).length ≤ k := fun k => by
  rw [hg, List.length_map]
  exact Nat.le_trans (List.length_filter_le _ _) (by simp)
 have hgs : ∀ k, g (k + 1) = g k ++ (if t.losses.getD k 0 > 0 then [(k : Int)] else []) := fun k => by
  rw [hg, hg, List.range_succ, List.filter_append, List.map_append, List.filter_cons, List.filter_nil]
  by_cases h : t.losses.getD k 0 > 0
  ·rw [decide_eq_true h, if_pos rfl, if_pos h]; rfl
  ·rw [decide_eq_false h, if_neg (by decide), if_neg h]; rfl
 have ht : tapL t = g t.losses.length := (hg _).symm
 have h0 : g 0 = [] := by rw [hg]; rfl
 refine wc_for t.losses.length (fun k => [(1, .ref 0 0), (3, gro (ints (g k))), (4, .int .i64 k)]) (fun k => ⟨[some (.cells (trC t))], (g k).length, toksN (g k).length⟩) (by rw [h0]; rfl) (by rw [h0]; rfl) ?_
 intro k hk I hI
 by_cases h : k < t.losses.length
 ·have h' : (k : Int) < t.losses.length := by omega
  have h2 : 0 ≤ (k : Int) ∧ (k : Int) < t.losses.length := by omega
  have h3 : t.losses[k]? = some (t.losses.getD k 0) := by rw [List.getD_eq_getElem?_getD, List.getElem?_eq_getElem h]; rfl
  have h4 : IntKind.i64.wrap ((k : Int) + 1) = (k + 1 : Nat) := wrap64 (by omega)
  have hI := hI h
  rw [hgs] at hI
  have hle := hgl k
  by_cases hp : t.losses.getD k 0 > 0
  ·rw [if_pos hp] at hI
   simp only [go_sem, l67_0, builtinA, h', decide_true, h2, ints_get, h3, Option.map_some, hp, reduceEqDiff, Nat.reduceBEq, reduceAdd, reduceIte, reduceCtorEq, reduceLeDiff]
   refine sr_gro22 _ _ _ (by simp) (by omega) ?_
   simp only [go_sem, h4, reduceEqDiff, Nat.reduceBEq, reduceAdd, reduceIte, reduceCtorEq, reduceLeDiff]
   have e : ints (g k ++ [(k : Int)]) = ints (g k) ++ [.int .i64 k] := by simp [ints]
   rw [e, List.length_append] at hI
   exact hI
  ·rw [if_neg hp, List.append_nil] at hI
   simp only [go_sem, l67_0, builtinA, h', decide_true, h2, ints_get, h3, Option.map_some, hp, decide_false, h4, reduceEqDiff, Nat.reduceBEq, reduceAdd, reduceIte, reduceCtorEq, reduceLeDiff]
   exact hI
 ·have h' : ¬ (k : Int) < t.losses.length := by omega
  have ek : k = t.losses.length := by omega
  subst ek
  simp only [go_sem, l67_0, builtinA, h', decide_false, Tryz.f67, reduceEqDiff, Nat.reduceBEq, reduceAdd, reduceIte, reduceCtorEq, reduceLeDiff]
  rw [ht]
  refine ⟨_, rfl, ?_⟩
  have := gro_frz_same [some (Blk.cells (trC t))] (ints (g t.losses.length))
  rw [ints_len] at this
  exact this
theorem truthB_len {l : LLine} {t : Truth} (ht : truthB l t = true) : t.losses.length = l.gives.length := by
 unfold truthB at ht
 simp only [Bool.and_eq_true, decide_eq_true_iff] at ht
 omega
theorem Flow_pc (l : LLine) (h : Ln l) (t : Truth) (ht : truthB l t = true) (p : Nat) (hp : p ≤ l.gives.length) : PC Tryz.prog 68 [lineA l, .agg (trC t), .int .i64 p] (.pure (.int .i64 (flowT l t p))) := by
 have hlen := truthB_len ht
 have hpts := h.pts
 refine PC.of_empty (AC.run (E_ok _) mix Tryz.func68 m68 rfl rfl rfl (Nat.le_of_ble_eq_true rfl) ?_) (by simp [bndL, AV.bnd]) rfl
 simp only [go_sem, boxA, reduceEqDiff, Nat.reduceBEq, reduceAdd, reduceIte, reduceCtorEq, reduceLeDiff]
 refine wc_for p (fun k => [(2, .int .i64 p), (3, .ref 0 0), (4, .ref 1 0), (7, .int .i64 (flowT l t k)), (8, .int .i64 k)]) (fun _ => ⟨[some (.cells (lineC l)), some (.cells (trC t))], 0, []⟩) rfl rfl ?_
 intro k hk I hI
 by_cases h1 : k < p
 ·have h' : (k : Int) < p := by omega
  have h2 : 0 ≤ (k : Int) ∧ (k : Int) < l.gives.length := by omega
  have h2' : 0 ≤ (k : Int) ∧ (k : Int) < t.losses.length := by omega
  have h3 : l.gives[k]? = some (l.gives.getD k 0) := by rw [List.getD_eq_getElem?_getD, List.getElem?_eq_getElem (by omega)]; rfl
  have h3' : t.losses[k]? = some (t.losses.getD k 0) := by rw [List.getD_eq_getElem?_getD, List.getElem?_eq_getElem (by omega)]; rfl
  have h4 : IntKind.i64.wrap ((k : Int) + 1) = (k + 1 : Nat) := wrap64 (by omega)
  have b1 := flowT_bnd h ht k (by omega)
  have b2 := truth_loss h ht k
  have b3 := h.give k
  have w1 : IntKind.i64.wrap (flowT l t k - l.gives.getD k 0) = flowT l t k - l.gives.getD k 0 := wrap64 (by omega)
  have w2 : IntKind.i64.wrap (flowT l t k - l.gives.getD k 0 - t.losses.getD k 0) = flowT l t (k + 1) := by
   rw [wrap64 (by omega)]
   show _ = flowT l t k - (l.gives.getD k 0 + t.losses.getD k 0); omega
  simp only [go_sem, l68_0, h', decide_true, h2, h2', ints_get, h3, h3', Option.map_some, w1, w2, h4, reduceEqDiff, Nat.reduceBEq, reduceAdd, reduceIte, reduceCtorEq, reduceLeDiff]
  exact hI h1
 ·have h' : ¬ (k : Int) < p := by omega
  have ek : k = p := by omega
  subst ek
  simp only [go_sem, l68_0, h', decide_false, Tryz.f68, reduceEqDiff, Nat.reduceBEq, reduceAdd, reduceIte, reduceCtorEq, reduceLeDiff]
theorem rTruth_pc (l : LLine) (t : Truth) (hl : okL t.losses.length) : PC Tryz.prog 65 [lineA l, .agg (trC t)] (.pure (.bool (truthB l t))) := by
 refine PC.of_empty (AC.run (E_ok _) mix Tryz.func65 m65 rfl rfl rfl (Nat.le_of_ble_eq_true rfl) ?_) (by simp [bndL, AV.bnd]) rfl
 unfold okL at hl
 simp only [go_sem, boxA, reduceEqDiff, Nat.reduceBEq, reduceAdd, reduceIte, reduceCtorEq, reduceLeDiff]
 refine wc_forP t.losses.length (fun k => ∀ i (h1 : i < k) (h2 : i < t.losses.length), lossBad l t.losses[i] = false) (fun k => [(2, .ref 0 0), (3, .ref 1 0), (5, .int .i64 k)]) (fun _ => ⟨[some (.cells (lineC l)), some (.cells (trC t))], 0, []⟩) (fun i hi => absurd hi (Nat.not_lt_zero _)) rfl rfl ?_
 intro k hk hP I hI
 by_cases h : k < t.losses.length
 ·have h' : (k : Int) < t.losses.length := by omega
  have h2 : 0 ≤ (k : Int) ∧ (k : Int) < t.losses.length := by omega
  have h3 : t.losses[k]? = some t.losses[k] := List.getElem?_eq_getElem h
  have h4 : IntKind.i64.wrap ((k : Int) + 1) = (k + 1 : Nat) := wrap64 (by omega)
  have good : lossBad l t.losses[k] = false → ∀ i (h1 : i < k + 1) (h2 : i < t.losses.length), lossBad l t.losses[i] = false := fun hb i hi hi2 => by
   by_cases e : i = k
   ·subst e; exact hb
   ·exact hP i (by omega) hi2
  by_cases hz : t.losses[k] ≠ 0
  ·have hd := decide_eq_true hz
   simp only [go_sem, l65_0, builtinA, h', decide_true, h2, ints_get, h3, Option.map_some, hd, reduceEqDiff, Nat.reduceBEq, reduceAdd, reduceIte, reduceCtorEq, reduceLeDiff]
   refine cp n80 (rin_pc _ _ _) (SubL.refl _) ?_
   cases hb : inB t.losses[k] l.least l.most
   ·simp only [go_sem, un_not, Bool.not_false, Tryz.f65, reduceEqDiff, Nat.reduceBEq, reduceAdd, reduceIte, reduceCtorEq, reduceLeDiff]
    have : t.losses.any (lossBad l) = true := by
     rw [List.any_eq_true]; exact ⟨_, List.getElem_mem h, by unfold lossBad; rw [hb, decide_eq_true hz]; rfl⟩
    unfold truthB; rw [this]; simp
   ·simp only [go_sem, un_not, Bool.not_true, h4, reduceEqDiff, Nat.reduceBEq, reduceAdd, reduceIte, reduceCtorEq, reduceLeDiff]
    exact hI h (good (by unfold lossBad; rw [hb]; simp))
  ·simp only [go_sem, l65_0, builtinA, h', decide_true, h2, ints_get, h3, Option.map_some, hz, decide_false, h4, reduceEqDiff, Nat.reduceBEq, reduceAdd, reduceIte, reduceCtorEq, reduceLeDiff]
   exact hI h (good (by unfold lossBad; rw [decide_eq_false hz]; rfl))
 ·have h' : ¬ (k : Int) < t.losses.length := by omega
  have ek : k = t.losses.length := by omega
  subst ek
  have : t.losses.any (lossBad l) = false := by
   rw [List.any_eq_false]
   intro x hx
   obtain ⟨i, hi, rfl⟩ := List.getElem_of_mem hx
   rw [hP i hi hi]; decide
  simp only [go_sem, l65_0, builtinA, h', decide_false, reduceEqDiff, Nat.reduceBEq, reduceAdd, reduceIte, reduceCtorEq, reduceLeDiff]
  refine cp n80 (rin_pc _ _ _) (SubL.refl _) ?_
  unfold truthB
  rw [this]
  cases hb : inB t.inflow 0 400
  ·simp only [go_sem, Tryz.f65, reduceEqDiff, Nat.reduceBEq, reduceAdd, reduceIte, reduceCtorEq, reduceLeDiff]
   rfl
  ·simp only [go_sem, builtinA, Tryz.f65, reduceEqDiff, Nat.reduceBEq, reduceAdd, reduceIte, reduceCtorEq, reduceLeDiff]
   simp
end Go.Av.Fx
end
section
namespace Go.Av.Fx
open Go Go.Av Go.Av.Tb Go.Proofs
theorem apart_pc (l : LLine) (h : Ln l) (s t : Truth) (hs : truthB l s = true) (ht : truthB l t = true) (pts : List Int) (hpl : pts.length ≤ 1000) (hp : PtsIn l pts) (off : Int) (ho : 0 ≤ off ∧ off ≤ 20) :
  PC Tryz.prog 69 [lineA l, .agg (trC s), .agg (trC t), sl pts, .int .i64 off] (.pure (.bool (apartB l s t off pts))) := by
 have hpts := h.pts
 refine PC.of_empty (AC.run (E_ok _) mix Tryz.func69 m69 rfl rfl rfl (Nat.le_of_ble_eq_true rfl) ?_) (by simp [bndL, AV.bnd]) rfl
 simp only [go_sem, boxA, reduceEqDiff, Nat.reduceBEq, reduceAdd, reduceIte, reduceCtorEq, reduceLeDiff]
 refine wc_forP pts.length (fun k => ∀ i, i < k → apartAt l s t off (pts.getD i 0) = false) (fun k => [(3, sl pts), (4, .int .i64 off), (5, .ref 0 0), (6, .ref 1 0), (7, .ref 2 0), (11, .int .i64 k)]) (fun _ => ⟨[some (.cells (lineC l)), some (.cells (trC s)), some (.cells (trC t))], 0, []⟩) (fun i hi => absurd hi (Nat.not_lt_zero _)) rfl rfl ?_
 intro k hk hP I hI
 by_cases h' : k < pts.length
 ·have h1 : (k : Int) < pts.length := by omega
  have h2 : 0 ≤ (k : Int) ∧ (k : Int) < pts.length := by omega
  have h3 : pts[k]? = some (pts.getD k 0) := by rw [getD_at 0 h', List.getElem?_eq_getElem h']
  have h4 : IntKind.i64.wrap ((k : Int) + 1) = (k + 1 : Nat) := wrap64 (by omega)
  have hpk := hp (pts.getD k 0) (by rw [getD_at 0 h']; exact List.getElem_mem h')
  have hI' := hI h'
  have hany : apartAt l s t off (pts.getD k 0) = true → apartB l s t off pts = true := fun hh => by
   unfold apartB
   rw [List.any_eq_true]
   exact ⟨_, by rw [getD_at 0 h']; exact List.getElem_mem h', hh⟩
  have hnx : apartAt l s t off (pts.getD k 0) = false → ∀ i, i < k + 1 → apartAt l s t off (pts.getD i 0) = false := fun hh i hi => by
   by_cases e : i = k
   ·subst e; exact hh
   ·exact hP i (by omega)
  generalize pts.getD k 0 = p at *
  obtain ⟨q, rfl⟩ : ∃ q : Nat, p = q := ⟨p.toNat, by omega⟩
  have b1 := flowT_bnd h hs q (by omega)
  have b2 := flowT_bnd h ht q (by omega)
  have eat : apartAt l s t off q = (decide (flowT l s q - flowT l t q > 2 * off) || decide (-(flowT l s q - flowT l t q) > 2 * off)) := rfl
  rw [eat] at hany hnx
  have F1 := Flow_pc l h s hs q (by omega)
  have F2 := Flow_pc l h t ht q (by omega)
  have w0 : IntKind.i64.wrap (2 * off) = 2 * off := wrap64 (by omega)
  have w1 : IntKind.i64.wrap (flowT l s q - flowT l t q) = flowT l s q - flowT l t q := wrap64 (by omega)
  have w2 : IntKind.i64.wrap (0 - (flowT l s q - flowT l t q)) = -(flowT l s q - flowT l t q) := by rw [wrap64 (by omega)]; omega
  simp only [go_sem, l69_0, builtinA, h1, decide_true, h2, ints_get, h3, Option.map_some, reduceEqDiff, Nat.reduceBEq, reduceAdd, reduceIte, reduceCtorEq, reduceLeDiff]
  first | refine cp n68 F1 (SubL.refl _) ?_ | refine qp n68 F1 (SubL.refl _) ?_
  simp only [go_sem, h2, ints_get, h3, Option.map_some, reduceEqDiff, Nat.reduceBEq, reduceAdd, reduceIte, reduceCtorEq, reduceLeDiff]
  first | refine cp n68 F2 (SubL.refl _) ?_ | refine qp n68 F2 (SubL.refl _) ?_
  simp only [go_sem, w1, reduceEqDiff, Nat.reduceBEq, reduceAdd, reduceIte, reduceCtorEq, reduceLeDiff]
  generalize flowT l s q - flowT l t q = v at *
  simp only [go_sem, unA, w2, builtinA, maxsA, w0, reduceEqDiff, Nat.reduceBEq, reduceAdd, reduceIte, reduceCtorEq, reduceLeDiff]
  have w3 : (v > 2 * off ∨ -v > 2 * off) ↔ (if -v > v then -v else v) > 2 * off := by split <;> omega
  by_cases c : (if -v > v then -v else v) > 2 * off
  ·have hy := hany (by rw [Bool.or_eq_true, decide_eq_true_iff, decide_eq_true_iff]; exact w3.2 c)
   simp only [go_sem, c, decide_true, Tryz.f69, reduceEqDiff, Nat.reduceBEq, reduceAdd, reduceIte, reduceCtorEq, reduceLeDiff]
   rw [hy]
  ·have hn := hI' (hnx (by
    rw [Bool.or_eq_false_iff, decide_eq_false_iff_not, decide_eq_false_iff_not]
    exact ⟨fun h => c (w3.1 (.inl h)), fun h => c (w3.1 (.inr h))⟩))
   simp only [go_sem, c, decide_false, h4, reduceEqDiff, Nat.reduceBEq, reduceAdd, reduceIte, reduceCtorEq, reduceLeDiff]
   exact hn
 ·have h1 : ¬ (k : Int) < pts.length := by omega
  have ek : k = pts.length := by omega
  subst ek
  have hb : apartB l s t off pts = false := by
   unfold apartB
   rw [List.any_eq_false]
   intro x hx
   obtain ⟨i, hi, rfl⟩ := List.mem_iff_getElem.1 hx
   have := hP i hi
   rw [getD_at 0 hi] at this
   rw [this]; decide
  simp only [go_sem, l69_0, builtinA, h1, decide_false, Tryz.f69, reduceEqDiff, Nat.reduceBEq, reduceAdd, reduceIte, reduceCtorEq, reduceLeDiff]
  rw [hb]
end Go.Av.Fx
end
