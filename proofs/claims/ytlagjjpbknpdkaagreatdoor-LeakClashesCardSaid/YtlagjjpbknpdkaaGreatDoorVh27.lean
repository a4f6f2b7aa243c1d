/- Part 27 of the proof. -/
import Derived.Test.YtlagjjpbknpdkaaGreatDoorVh26
import Derived.Test.YtlagjjpbknpdkaaGreatDoorVh20
import Derived.Test.YtlagjjpbknpdkaaGreatDoorVh24
import Derived.Test.YtlagjjpbknpdkaaGreatDoorVh25
set_option linter.all false
set_option linter.unusedVariables false
set_option linter.unusedSimpArgs false
set_option linter.unusedSectionVars false
open Nat (reduceEqDiff reduceAdd reduceLeDiff)
section
namespace Go.Av.Fx
open Go Go.Av Go.Av.Tb Go.Proofs
theorem Sub.map {α : Type} (f g : α → AV) (h : ∀ a, Sub (f a) (g a)) (L : List α) (n : Nat) (t : Tail) : Sub (.slice (L.map f) n t) (.slice (L.map g) n .unk) := by
 intro c x hx
 generalize hl : L.map f = l at hx
 cases hx with
 | slice _ _ _ b off cap vs hc hk hr he ht =>
  subst hl
  refine .slice _ n .unk b off cap vs hc (fun j hj => hk j (by simpa using hj)) (fun j y hy => ?_) (fun e => by cases e) (fun k e => by cases e)
  rw [List.getElem?_map] at hy
  cases e : L[j]? with
  | none => rw [e] at hy; cases hy
  | some a =>
   rw [e] at hy; cases hy
   exact h a c _ (hr j (f a) (by rw [List.getElem?_map, e]; rfl))
 | sliceNil _ ht =>
  have : L = [] := by simpa using hl
  subst this
  exact .sliceNil .unk (fun k e => by cases e)
theorem askM : askE lineM true = 0 := by simp [askE, kM_line, kM_poss]
theorem okM : okLine lineM := ⟨by decide, by decide⟩
theorem okN : okLine lineN := ⟨by decide, by decide⟩
theorem q1 : PC Tryz.prog 41 [lineA lineN] (.pure (.tuple [.bool false, .int .i64 0])) := by
 have := Possible_pc lineN okN
 rw [kN_line, kN_poss] at this; exact this
theorem q2 : PC Tryz.prog 22 [lineA lineM] (.pure (.tuple [sll [[0], [1], [2]], .int .i64 0])) := by
 have := Sets_pc lineM okM
 unfold setsA at this
 rw [if_pos askM, kM_sets] at this; exact this
theorem q3 : PC Tryz.prog 21 [lineA lineM] (.pure (.tuple [sl [2, 2, 2], .int .i64 0])) := by
 have := Known_pc lineM okM
 unfold knownA at this
 rw [if_pos askM, show lineM.gives.length = 3 from rfl, kM_words] at this; exact this
theorem q4 : PC Tryz.prog 34 [lineA lineM, .int .i64 1] (.pure (.tuple [spA ⟨78, 94⟩, .int .i64 0])) := by
 have := Flows_pc lineM okM 1
 unfold flowsA at this
 rw [show inB 1 0 lineM.gives.length = true from rfl, if_pos askM, show Int.toNat 1 = 1 from rfl, kM_flows] at this; exact this
theorem q5 : PC Tryz.prog 35 [lineA lineM, .int .i64 0, .int .i64 3] (.pure (.tuple [spA ⟨8, 15⟩, .int .i64 0])) := by
 have := Lost_pc lineM okM 0 3
 unfold lostA at this
 rw [show fineLost lineM 0 3 = true from rfl, if_pos askM, show Int.toNat 0 = 0 from rfl, show Int.toNat 3 = 3 from rfl, kM_lost] at this; exact this
theorem q6 : PC Tryz.prog 30 [lineA lineM, sl [1]] (.pure (.tuple [spA ⟨8, 15⟩, .int .i64 0])) := by
 have := Explains_pc lineM okM [1] (by decide)
 unfold explA at this
 rw [if_pos ⟨kM_line, by decide⟩, if_pos (show isSetB lineM [1] = true by decide +kernel)] at this
 have h := kM_expl
 cases hx : explM lineM [1] with
 | none => rw [hx] at h; cases h
 | some W =>
  rw [hx] at h this
  have h : lostS lineM W 0 3 = ⟨8, 15⟩ := by simpa using h
  simp only [show lineM.gives.length = 3 from rfl, h] at this
  exact this
theorem q7 : PC Tryz.prog 43 [lineA lineM, .int .i64 2] (.pure (.tuple [.int .i64 1, .int .i64 2, .int .i64 0])) := by
 have := Next_pc lineM okM 2
 unfold nextA at this
 rw [show inB 2 0 20 = true from rfl, if_pos askM, kM_next] at this; exact this
theorem q8 : PC Tryz.prog 47 [lineA lineM, sl [1, 2], .int .i64 2] (.pure (.tuple [.bool true, .int .i64 0])) := by
 have := Tells_pc lineM okM [1, 2] (by decide) 2
 unfold tellsA at this
 rw [show fineTells lineM [1, 2] 2 = true by decide +kernel, if_pos askM, kM_tells] at this; exact this
theorem q9 : PC Tryz.prog 48 [lineA lineM, .int .i64 2] (.pure (.tuple [sl [1, 2], .int .i64 0])) := by
 have := Plan_pc lineM okM 2
 unfold planA at this
 rw [show inB 2 0 20 = true from rfl, if_pos askM, kM_plan] at this; exact this
theorem q10 : PC Tryz.prog 53 [lineA lineN] (.pure (.tuple [.int .i64 0, .int .i64 2, .int .i64 0])) := by
 have := Clash_pc lineN okN
 unfold clashA at this
 rw [if_pos kN_line, kN_clash] at this; exact this
theorem q11 : PC Tryz.prog 54 [lineA lineN] (.pure (.tuple [sl [0], .int .i64 0])) := by
 have := Wrong_pc lineN okN
 unfold wrongA at this
 rw [if_pos kN_line, kN_wrong] at this; exact this
theorem q12 : PC Tryz.prog 61 [.str exT] (.pure (.tuple [lineA lineT, .int .i64 0])) := by
 have := Read_pc exT (by decide)
 unfold readA at this
 rw [if_pos (by decide), kT] at this
 simp only [if_pos kT_line] at this
 exact this
theorem q13 : PC Tryz.prog 62 [lineA lineT] (.pure (.str exT)) := by
 have := rPrint_pc lineT (isLine_iff.1 kT_line).plain
 rw [kT_text] at this; exact this
@[go_sem] theorem ne42a : binA T .neq 42 (.agg [.int .i64 78, .int .i64 94]) (.agg [.int .i64 78, .int .i64 94]) = some (.bool false) := rfl
@[go_sem] theorem ne42b : binA T .neq 42 (.agg [.int .i64 8, .int .i64 15]) (.agg [.int .i64 8, .int .i64 15]) = some (.bool false) := rfl
set_option maxRecDepth 100000 in
theorem known_pc : PC Tryz.prog 20 [] (.pure (.bool true)) := by
 refine PC.of_empty (AC.run (E_ok _) mix Tryz.func20 m20 rfl rfl rfl (Nat.le_of_ble_eq_true rfl) ?_) rfl rfl
 simp only [go_sem, reduceEqDiff, Nat.reduceBEq, reduceAdd, reduceIte, reduceCtorEq, reduceLeDiff]
 refine cp n73 N_pc (SubL.refl _) ?_
 simp only [go_sem, reduceEqDiff, Nat.reduceBEq, reduceAdd, reduceIte, reduceCtorEq, reduceLeDiff]
 refine cp n41 q1 (SubL.refl _) ?_
 simp only [go_sem, extractA, reduceEqDiff, Nat.reduceBEq, reduceAdd, reduceIte, reduceCtorEq, reduceLeDiff]
 refine cp n74 M_pc (SubL.refl _) ?_
 simp only [go_sem, reduceEqDiff, Nat.reduceBEq, reduceAdd, reduceIte, reduceCtorEq, reduceLeDiff]
 refine cp n22 q2 (SubL.refl _) ?_
 simp only [go_sem, extractA, reduceEqDiff, Nat.reduceBEq, reduceAdd, reduceIte, reduceCtorEq, reduceLeDiff]
 refine cp n74 M_pc (SubL.refl _) ?_
 simp only [go_sem, reduceEqDiff, Nat.reduceBEq, reduceAdd, reduceIte, reduceCtorEq, reduceLeDiff]
 refine cp n21 q3 (SubL.refl _) ?_
 simp only [go_sem, extractA, reduceEqDiff, Nat.reduceBEq, reduceAdd, reduceIte, reduceCtorEq, reduceLeDiff]
 refine cp n74 M_pc (SubL.refl _) ?_
 simp only [go_sem, reduceEqDiff, Nat.reduceBEq, reduceAdd, reduceIte, reduceCtorEq, reduceLeDiff]
 refine cp n34 q4 (SubL.refl _) ?_
 simp only [go_sem, extractA, put_eq, reduceEqDiff, Nat.reduceBEq, reduceAdd, reduceIte, reduceCtorEq, reduceLeDiff]
 refine cp n74 M_pc (SubL.refl _) ?_
 simp only [go_sem, reduceEqDiff, Nat.reduceBEq, reduceAdd, reduceIte, reduceCtorEq, reduceLeDiff]
 refine cp n35 q5 (SubL.refl _) ?_
 simp only [go_sem, extractA, put_eq, reduceEqDiff, Nat.reduceBEq, reduceAdd, reduceIte, reduceCtorEq, reduceLeDiff]
 refine cp n74 M_pc (SubL.refl _) ?_
 simp only [go_sem, reduceEqDiff, Nat.reduceBEq, reduceAdd, reduceIte, reduceCtorEq, reduceLeDiff]
 refine cp n30 q6 (SubL.cons (Sub.refl _) (SubL.cons (Sub.unk _ _ _) (SubL.refl _))) ?_
 simp only [go_sem, extractA, put_eq, reduceEqDiff, Nat.reduceBEq, reduceAdd, reduceIte, reduceCtorEq, reduceLeDiff]
 refine cp n74 M_pc (SubL.refl _) ?_
 simp only [go_sem, reduceEqDiff, Nat.reduceBEq, reduceAdd, reduceIte, reduceCtorEq, reduceLeDiff]
 refine cp n43 q7 (SubL.refl _) ?_
 simp only [go_sem, extractA, reduceEqDiff, Nat.reduceBEq, reduceAdd, reduceIte, reduceCtorEq, reduceLeDiff]
 refine cp n74 M_pc (SubL.refl _) ?_
 simp only [go_sem, reduceEqDiff, Nat.reduceBEq, reduceAdd, reduceIte, reduceCtorEq, reduceLeDiff]
 refine cp n47 q8 (SubL.cons (Sub.refl _) (SubL.cons (Sub.unk _ _ _) (SubL.refl _))) ?_
 simp only [go_sem, extractA, reduceEqDiff, Nat.reduceBEq, reduceAdd, reduceIte, reduceCtorEq, reduceLeDiff]
 refine cp n74 M_pc (SubL.refl _) ?_
 simp only [go_sem, reduceEqDiff, Nat.reduceBEq, reduceAdd, reduceIte, reduceCtorEq, reduceLeDiff]
 refine cp n48 q9 (SubL.refl _) ?_
 simp only [go_sem, extractA, reduceEqDiff, Nat.reduceBEq, reduceAdd, reduceIte, reduceCtorEq, reduceLeDiff]
 refine cp n73 N_pc (SubL.refl _) ?_
 simp only [go_sem, reduceEqDiff, Nat.reduceBEq, reduceAdd, reduceIte, reduceCtorEq, reduceLeDiff]
 refine cp n53 q10 (SubL.refl _) ?_
 simp only [go_sem, extractA, reduceEqDiff, Nat.reduceBEq, reduceAdd, reduceIte, reduceCtorEq, reduceLeDiff]
 refine cp n73 N_pc (SubL.refl _) ?_
 simp only [go_sem, reduceEqDiff, Nat.reduceBEq, reduceAdd, reduceIte, reduceCtorEq, reduceLeDiff]
 refine cp n54 q11 (SubL.refl _) ?_
 simp only [go_sem, extractA, reduceEqDiff, Nat.reduceBEq, reduceAdd, reduceIte, reduceCtorEq, reduceLeDiff]
 refine cp n61 q12 (SubL.refl _) ?_
 have z0 : ¬ ((0 : Int) ≠ 0) := by decide
 simp only [go_sem, extractA, put_eq, z0, decide_false, reduceEqDiff, Nat.reduceBEq, reduceAdd, reduceIte, reduceCtorEq, reduceLeDiff]
 refine cp n26 (SameSets_pc [[0], [1], [2]] [[0], [1], [2]] (by decide) (by decide) (by decide) (by decide)) (SubL.cons (Sub.refl _) (SubL.cons (Sub.map (fun s => .slice (ints s) s.length .exact) sl (fun s => Sub.unk _ _ _) [[0], [1], [2]] 3 .exact) (SubL.refl _))) ?_
 rw [decide_eq_true rfl]
 simp only [go_sem, un_not, Bool.not_true, reduceEqDiff, Nat.reduceBEq, reduceAdd, reduceIte, reduceCtorEq, reduceLeDiff]
 refine cp n24 (SameWords_pc [2, 2, 2] [2, 2, 2] (by decide) (by decide)) (SubL.cons (Sub.refl _) (SubL.cons (Sub.unk _ _ _) (SubL.refl _))) ?_
 rw [decide_eq_true rfl]
 have z1 : decide ((1 : Int) = 1) = true := rfl
 have z2 : decide ((2 : Int) = 2) = true := rfl
 have z3 : decide ((0 : Int) = 0) = true := rfl
 simp only [go_sem, un_not, Bool.not_true, put_eq, z1, z2, z3, decide_true, reduceEqDiff, Nat.reduceBEq, reduceAdd, reduceIte, reduceCtorEq, reduceLeDiff]
 refine cp n50 (Same_pc [1, 2] [1, 2] (by decide) (by decide)) (SubL.cons (Sub.refl _) (SubL.cons (Sub.unk _ _ _) (SubL.refl _))) ?_
 rw [decide_eq_true rfl]
 simp only [go_sem, un_not, Bool.not_true, put_eq, z1, z2, z3, decide_true, reduceEqDiff, Nat.reduceBEq, reduceAdd, reduceIte, reduceCtorEq, reduceLeDiff]
 refine cp n50 (Same_pc [0] [0] (by decide) (by decide)) (SubL.cons (Sub.refl _) (SubL.cons (Sub.unk _ _ _) (SubL.refl _))) ?_
 rw [decide_eq_true rfl]
 simp only [go_sem, un_not, Bool.not_true, put_eq, z1, z2, z3, decide_true, reduceEqDiff, Nat.reduceBEq, reduceAdd, reduceIte, reduceCtorEq, reduceLeDiff]
 refine cp n62 q13 (SubL.refl _) ?_
 have z4 : binA T .eql 9 (.str exT) (.str ⟨#[108, 105, 110, 101, 32, 49, 32, 49, 32, 48, 10, 115, 116, 114, 101, 116, 99, 104, 32, 48, 10, 101, 110, 100, 32, 48, 53, 49, 10]⟩) = some (.bool true) := (show binA T .eql 9 (.str exT) (.str exT) = some (.bool true) by rw [eqS, decide_eq_true rfl])
 simp only [go_sem, z4, Tryz.f20, reduceEqDiff, Nat.reduceBEq, reduceAdd, reduceIte, reduceCtorEq, reduceLeDiff]
end Go.Av.Fx
end
section
namespace Go.Av.Fx
open Go Go.Av Go.Proofs
open Go.Fw (Sq ent Bd Mat Tells Good)
structure Spn (P : (Nat → Int) → Prop) (g : (Nat → Int) → Int) (sp : Span) : Prop where
 bd : ∀ f, P f → sp.low ≤ g f ∧ g f ≤ sp.high
 lo : ∃ f, P f ∧ g f = sp.low
 hi : ∃ f, P f ∧ g f = sp.high
theorem Spn.imp {P Q : (Nat → Int) → Prop} {g : (Nat → Int) → Int} {a : Span} (h : Spn P g a) (e : ∀ f, P f ↔ Q f) : Spn Q g a := by
 obtain ⟨f1, p1, e1⟩ := h.lo
 obtain ⟨f2, p2, e2⟩ := h.hi
 exact ⟨fun f hf => h.bd f ((e f).2 hf), ⟨f1, (e _).1 p1, e1⟩, ⟨f2, (e _).1 p2, e2⟩⟩
theorem Spn.join {P Q : (Nat → Int) → Prop} {g : (Nat → Int) → Int} {a b : Span} (h : Spn P g a) (h' : Spn Q g b) : Spn (fun f => P f ∨ Q f) g (joinS a b) := by
 obtain ⟨f1, p1, e1⟩ := h.lo
 obtain ⟨f2, p2, e2⟩ := h.hi
 obtain ⟨f3, p3, e3⟩ := h'.lo
 obtain ⟨f4, p4, e4⟩ := h'.hi
 unfold joinS
 refine ⟨?_, ?_, ?_⟩
 ·rintro f (hf | hf)
  ·have := h.bd f hf
   constructor
   ·show (if b.low < a.low then b.low else a.low) ≤ _; split <;> omega
   ·show _ ≤ (if b.high > a.high then b.high else a.high); split <;> omega
  ·have := h'.bd f hf
   constructor
   ·show (if b.low < a.low then b.low else a.low) ≤ _; split <;> omega
   ·show _ ≤ (if b.high > a.high then b.high else a.high); split <;> omega
 ·by_cases c : b.low < a.low
  ·exact ⟨f3, .inr p3, by show _ = if b.low < a.low then b.low else a.low; rw [if_pos c]; exact e3⟩
  ·exact ⟨f1, .inl p1, by show _ = if b.low < a.low then b.low else a.low; rw [if_neg c]; exact e1⟩
 ·by_cases c : b.high > a.high
  ·exact ⟨f4, .inr p4, by show _ = if b.high > a.high then b.high else a.high; rw [if_pos c]; exact e4⟩
  ·exact ⟨f2, .inl p2, by show _ = if b.high > a.high then b.high else a.high; rw [if_neg c]; exact e2⟩
theorem Spn.fold {α : Type} {P : α → (Nat → Int) → Prop} {g : (Nat → Int) → Int} {f : α → Span} : ∀ (L : List α) {Q : (Nat → Int) → Prop} {o : Span}, Spn Q g o → (∀ t ∈ L, Spn (P t) g (f t)) →
  Spn (fun x => Q x ∨ ∃ t, t ∈ L ∧ P t x) g (L.foldl (fun o t => joinS o (f t)) o)
 | [], Q, o, h, _ => h.imp fun x => ⟨.inl, fun hx => hx.elim id fun ⟨t, ht, _⟩ => by cases ht⟩
 | t :: L, Q, o, h, hL => by
  refine (Spn.fold L (h.join (hL t List.mem_cons_self)) fun t ht => hL t (List.mem_cons_of_mem _ ht)).imp fun x => ?_
  constructor
  ·rintro ((h | h) | ⟨u, hu, h⟩)
   ·exact .inl h
   ·exact .inr ⟨t, List.mem_cons_self, h⟩
   ·exact .inr ⟨u, List.mem_cons_of_mem _ hu, h⟩
  ·rintro (h | ⟨u, hu, h⟩)
   ·exact .inl (.inl h)
   ·rcases List.mem_cons.1 hu with rfl | hu
    ·exact .inl (.inr h)
    ·exact .inr ⟨u, hu, h⟩
end Go.Av.Fx
end
section
namespace Go.Av.Fx
open Go Go.Av Go.Av.Tb Go.Proofs
end Go.Av.Fx
end
section
namespace Go.Av.Fx
open Go Go.Av Go.Proofs
open Go.Fw (Sq ent Bd Mat Tells Good)
end Go.Av.Fx
end
section
namespace Go.Av.Fx
open Go Go.Av Go.Proofs
open Go.Fw (Sq ent Bd Mat Tells Good)
end Go.Av.Fx
end
section
namespace Go.Av.Fx
open Go Go.Av Go.Av.Tb Go.Proofs
end Go.Av.Fx
end
section
namespace Go.Av.Fx
open Go Go.Av Go.Av.Tb Go.Proofs
end Go.Av.Fx
end
section
namespace Go.Av.Fx
open Go Go.Av Go.Av.Tb Go.Proofs
def nl (ns : List Nat) : List Int := ns.map fun (n : Nat) => (n : Int)
@[simp] theorem nl_len (ns : List Nat) : (nl ns).length = ns.length := by simp [nl]
def keptL (l : LLine) (ns : List Nat) : LLine := { l with counts := ns.map (cntAt l) }
theorem groC_frz (H : List (Option Blk)) (cs : List Cnt) : Frz H (groC cs) (.slice (cnts cs) cs.length .unk) := by
 cases cs with
 | nil => exact .nil
 | cons c cs => exact .unk _ _ _
theorem line_frz (H : List (Option Blk)) (l : LLine) (cs : List Cnt) : Frz H (.agg [sl l.gives, .int .i64 l.least, .int .i64 l.most, .int .i64 l.taps, groC cs]) (lineA { l with counts := cs }) := by
 refine .agg _ _ rfl fun j x y hx hy => ?_
 match j, hx, hy with
 | 0, hx, hy => simp at hx; cases hy; subst hx; exact .same _
 | 1, hx, hy => simp at hx; cases hy; subst hx; exact .same _
 | 2, hx, hy => simp at hx; cases hy; subst hx; exact .same _
 | 3, hx, hy => simp at hx; cases hy; subst hx; exact .same _
 | 4, hx, hy => simp at hx; cases hy; subst hx; exact groC_frz _ _
 | j + 5, hx, hy => simp at hx
theorem Kept_pc (l : LLine) (hl : l.counts.length ≤ 1000) (ns : List Nat) (hn : ns.length ≤ 1000) (hin : ∀ n ∈ ns, n < l.counts.length) : PC Tryz.prog 59 [lineA l, sl (nl ns)] (.pure (lineA (keptL l ns))) := by
 refine PC.of_frz (AC.run (E_ok _) mix Tryz.func59 m59 rfl rfl rfl (Nat.le_of_ble_eq_true rfl) ?_) (by simp [bndL, AV.bnd]) (by simp [bndL, AV.bnd])
 simp only [go_sem, boxA, put_eq, reduceEqDiff, Nat.reduceBEq, reduceAdd, reduceIte, reduceCtorEq, reduceLeDiff]
 refine wc_for ns.length (fun k => [(1, sl (nl ns)), (2, .ref 0 0), (4, .ref 1 0), (5, .ref 2 0), (6, .int .i64 k)])
  (fun k => ⟨[some (.cells (lineC l)), some (.cells [.nilS, .int .i64 0, .int .i64 0, .int .i64 0, .nilS]), some (.cells [sl l.gives, .int .i64 l.least, .int .i64 l.most, .int .i64 l.taps, groC ((ns.take k).map (cntAt l))])], k, toksN k⟩) rfl rfl ?_
 intro k hk I hI
 by_cases h : k < ns.length
 ·have h' : (k : Int) < (nl ns).length := by rw [nl_len]; omega
  have h2 : 0 ≤ (k : Int) ∧ (k : Int) < (nl ns).length := by rw [nl_len]; omega
  have h3 : (nl ns)[k]? = some (ns[k] : Int) := by unfold nl; rw [List.getElem?_map, List.getElem?_eq_getElem h]; rfl
  have h4 : IntKind.i64.wrap ((k : Int) + 1) = (k + 1 : Nat) := wrap64 (by omega)
  have hi := hin _ (List.getElem_mem h)
  have g2 : 0 ≤ (ns[k] : Int) ∧ (ns[k] : Int) < l.counts.length := by omega
  have g3 : ns[k] * 3 + 3 ≤ (cnts l.counts).length := by rw [cnts_len]; omega
  have g5 := cnts_at l.counts ns[k] hi
  have e1 : cntAt l ns[k] = l.counts[ns[k]] := getD_at _ hi
  have hI := hI h
  rw [List.take_succ_eq_append_getElem h, List.map_append, List.map_cons, List.map_nil, e1] at hI
  generalize hq : (ns.take k).map (cntAt l) = cs at hI ⊢
  have hql : cs.length = k := by rw [← hq]; simp; omega
  simp only [go_sem, l59_0, builtinA, h', decide_true, h2, ints_get, h3, Option.map_some, g2, g3, g5, reduceEqDiff, Nat.reduceBEq, reduceAdd, reduceIte, reduceCtorEq, reduceLeDiff]
  refine sr_groC cs l.counts[ns[k]] hql (by omega) ?_
  simp only [go_sem, put_eq, h4, reduceEqDiff, Nat.reduceBEq, reduceAdd, reduceIte, reduceCtorEq, reduceLeDiff]
  exact hI
 ·have h' : ¬ (k : Int) < (nl ns).length := by rw [nl_len]; omega
  have ek : k = ns.length := by omega
  subst ek
  simp only [go_sem, l59_0, builtinA, h', decide_false, put_eq, Tryz.f59, reduceEqDiff, Nat.reduceBEq, reduceAdd, reduceIte, reduceCtorEq, reduceLeDiff]
  rw [List.take_length]
  exact ⟨_, rfl, line_frz _ l _⟩
def restN (l : LLine) (w : List Int) (k : Nat) : List Nat := (List.range k).filter fun (i : Nat) => !w.contains (i : Int)
theorem without_kept (l : LLine) (w : List Int) : withoutL l w = keptL l (restN l w l.counts.length) := rfl
theorem restN_len (l : LLine) (w : List Int) (k : Nat) : (restN l w k).length ≤ k := by
 unfold restN
 exact Nat.le_trans (List.length_filter_le _ _) (by simp)
theorem restN_succ (l : LLine) (w : List Int) (k : Nat) : restN l w (k + 1) = restN l w k ++ (if w.contains (k : Int) = true then [] else [k]) := by
 unfold restN
 rw [List.range_succ, List.filter_append, List.filter_cons, List.filter_nil]
 cases w.contains (k : Int) <;> rfl
theorem Without_pc (l : LLine) (hl : l.counts.length ≤ 1000) (w : List Int) (hw : w.length ≤ 1000) : PC Tryz.prog 58 [lineA l, sl w] (.pure (lineA (withoutL l w))) := by
 refine PC.of_empty (AC.run (E_ok _) mix Tryz.func58 m58 rfl rfl rfl (Nat.le_of_ble_eq_true rfl) ?_) (by simp [bndL, AV.bnd]) (by simp [bndL, AV.bnd])
 simp only [go_sem, boxA, reduceEqDiff, Nat.reduceBEq, reduceAdd, reduceIte, reduceCtorEq, reduceLeDiff]
 refine wc_for l.counts.length (fun k => [(1, sl w), (2, .ref 0 0), (4, .ref 1 0), (5, gro (ints (nl (restN l w k)))), (6, .int .i64 k)])
  (fun k => ⟨[some (.cells (lineC l)), some (.cells [.nilS, .int .i64 0, .int .i64 0, .int .i64 0, .nilS])], (restN l w k).length, toksN (restN l w k).length⟩) rfl rfl ?_
 intro k hk I hI
 by_cases h : k < l.counts.length
 ·have h' : (k : Int) < l.counts.length := by omega
  have h4 : IntKind.i64.wrap ((k : Int) + 1) = (k + 1 : Nat) := wrap64 (by omega)
  have hI := hI h
  rw [restN_succ] at hI
  have hle := restN_len l w k
  simp only [go_sem, l58_0, builtinA, h', decide_true, reduceEqDiff, Nat.reduceBEq, reduceAdd, reduceIte, reduceCtorEq, reduceLeDiff]
  refine cp n77 (has_pc w (by show _ < _; omega) k) (SubL.refl _) ?_
  cases hc : w.contains (k : Int)
  ·rw [hc, if_neg (by decide)] at hI
   simp only [go_sem, un_not, Bool.not_false, reduceEqDiff, Nat.reduceBEq, reduceAdd, reduceIte, reduceCtorEq, reduceLeDiff]
   refine sr_gro22 _ _ .exact (by simp) (by omega) ?_
   simp only [go_sem, h4, reduceEqDiff, Nat.reduceBEq, reduceAdd, reduceIte, reduceCtorEq, reduceLeDiff]
   have e : ints (nl (restN l w k ++ [k])) = ints (nl (restN l w k)) ++ [.int .i64 k] := by simp [nl, ints]
   rw [e, List.length_append] at hI
   exact hI
  ·rw [hc, if_pos rfl, List.append_nil] at hI
   simp only [go_sem, un_not, Bool.not_true, h4, reduceEqDiff, Nat.reduceBEq, reduceAdd, reduceIte, reduceCtorEq, reduceLeDiff]
   exact hI
 ·have h' : ¬ (k : Int) < l.counts.length := by omega
  have ek : k = l.counts.length := by omega
  subst ek
  have hle := restN_len l w l.counts.length
  simp only [go_sem, l58_0, builtinA, h', decide_false, reduceEqDiff, Nat.reduceBEq, reduceAdd, reduceIte, reduceCtorEq, reduceLeDiff]
  rw [without_kept]
  refine cp n59 (Kept_pc l hl (restN l w l.counts.length) (by omega) (fun n hn => List.mem_range.1 (List.mem_filter.1 hn).1)) (SubL.cons (Sub.refl _) (SubL.cons (gro_sub _) (SubL.refl []))) ?_
  simp only [go_sem, put_eq, Tryz.f58, reduceEqDiff, Nat.reduceBEq, reduceAdd, reduceIte, reduceCtorEq, reduceLeDiff]
end Go.Av.Fx
end
section
namespace Go.Av.Fx
open Go Go.Av Go.Av.Tb Go.Proofs
theorem wc_forT {E : Env} {c : MC} {Q : AQ} {ts : TS} {S : St} (N : Nat) (P : Nat → Prop) (f : Nat → TS) (g : Nat → St) (hP : P 0) (h0 : f 0 = ts) (h1 : g 0 = S) (hb : ∀ k, k ≤ N → Neat E.base E.bt (f k) (g k))
  (h : ∀ k, k ≤ N → P k → ∀ I : TS → St → Prop, (k < N → P (k + 1) → ∀ nt toks, (g (k + 1)).nt ≤ nt → (∀ t ∈ (g (k + 1)).toks, t ∈ toks) → I (f (k + 1)) ⟨(g (k + 1)).heap, nt, toks⟩) → WC E c (thenQ I Q) (f k) (g k)) : WC E (.loop c) Q ts S := by
 refine wc_loop (fun n ts' S' => ∃ k, k ≤ N ∧ P k ∧ n = N - k ∧ ts' = f k ∧ S' = g k) N ⟨0, Nat.zero_le _, hP, rfl, h0.symm, h1.symm⟩ ?_
 rintro n ts' S' ⟨k, hk, hp, rfl, rfl, rfl⟩
 refine h k hk hp _ fun hlt hp' nt toks hnt htk => ⟨N - (k + 1), by omega, .inr ⟨f (k + 1), g (k + 1), (hb _ hlt).base, (hb _ hlt).bt, ?_, ?_, k + 1, hlt, hp', rfl, rfl, rfl⟩⟩
 ·exact ⟨Nat.le_refl _, fun i B hB => ⟨hB, (hb _ hlt).heap i B hB⟩, hnt, fun t ht => ⟨htk t ht, (hb _ hlt).toks t ht⟩⟩
 ·intro d v hv
  exact ⟨v, hv, Sub.refl v, bndTS_get (hb _ hlt).ts hv⟩
theorem kept_lw {l : LLine} (h : Lw l) {ns : List Nat} (hin : ∀ n ∈ ns, n < l.counts.length) (hn : ns.length ≤ 1000) : Lw (keptL l ns) := by
 refine ⟨h.pts, by show (ns.map (cntAt l)).length ≤ 1000; simpa using hn, h.least, h.most, h.taps, h.gives, fun c hc => ?_⟩
 obtain ⟨n, hn', rfl⟩ := List.mem_map.1 hc
 have := hin n hn'
 have e : cntAt l n = l.counts[n] := getD_at _ this
 rw [e]
 exact h.counts _ (List.getElem_mem this)
def rclashA (l : LLine) : AV := match clashL l with | some (i, k) => .tuple [.int .i64 i, .int .i64 k, .bool true] | none => .tuple [.int .i64 0, .int .i64 0, .bool false]
theorem rclashA_bnd (l : LLine) : (rclashA l).bnd 0 0 = true := by
 unfold rclashA
 split <;> rfl
theorem rClash_pc (l : LLine) (h : Lw l) (hc : l.counts.length ≤ 1000) : PC Tryz.prog 55 [lineA l] (.pure (rclashA l)) := by
 refine PC.of_empty (AC.run (E_ok _) mix Tryz.func55 m55 rfl rfl rfl (Nat.le_of_ble_eq_true rfl) ?_) (by simp [bndL, AV.bnd]) (rclashA_bnd l)
 simp only [go_sem, boxA, reduceEqDiff, Nat.reduceBEq, reduceAdd, reduceIte, reduceCtorEq, reduceLeDiff]
 refine wc_forP l.counts.length (fun i => clashL l = firstG (clashRow l) i (l.counts.length - i)) (fun i => [(1, .ref 0 0), (5, .int .i64 i)]) (fun _ => ⟨[some (.cells (lineC l))], 0, []⟩) rfl rfl rfl ?_
 intro i hi hP I hI
 by_cases h' : i < l.counts.length
 ·have h1 : (i : Int) < l.counts.length := by omega
  have h6 : IntKind.i64.wrap ((i : Int) + 1) = (i + 1 : Nat) := wrap64 (by omega)
  have hI' := hI h'
  clear hI
  obtain ⟨r, hr⟩ : ∃ r, l.counts.length - i = r + 1 := ⟨l.counts.length - i - 1, by omega⟩
  rw [hr] at hP
  unfold firstG at hP
  simp only [go_sem, l55_0, builtinA, h1, decide_true, h6, reduceEqDiff, Nat.reduceBEq, reduceAdd, reduceIte, reduceCtorEq, reduceLeDiff]
  refine wc_forP (l.counts.length - (i + 1)) (fun j => clashRow l i = firstG (clashAt l i) (i + 1 + j) (l.counts.length - (i + 1) - j)) (fun j => [(1, .ref 0 0), (5, .int .i64 i), (6, .int .i64 (i + 1 + j : Nat))]) (fun _ => ⟨[some (.cells (lineC l))], 0, []⟩) rfl rfl rfl ?_
  intro j hj hP2 I2 hI2
  by_cases hk' : i + 1 + j < l.counts.length
  ·have g1 : ((i + 1 + j : Nat) : Int) < l.counts.length := by omega
   have g6 : IntKind.i64.wrap (((i + 1 + j : Nat) : Int) + 1) = (i + 1 + (j + 1) : Nat) := wrap64 (by omega)
   have hI2' := hI2 (by omega)
   clear hI2
   obtain ⟨q, hq⟩ : ∃ q, l.counts.length - (i + 1) - j = q + 1 := ⟨l.counts.length - (i + 1) - j - 1, by omega⟩
   rw [hq] at hP2
   unfold firstG at hP2
   have hin : ∀ n ∈ [i, i + 1 + j], n < l.counts.length := fun n hn => by simp at hn; omega
   have hK := Kept_pc l hc [i, i + 1 + j] (by simp) hin
   have hw2 := kept_lw h hin (by simp)
   have hR := rPoss_pc _ hw2
   rw [rPoss_eq hw2] at hR
   have etwo : keptL l [i, i + 1 + j] = twoL l i (i + 1 + j) := rfl
   simp only [go_sem, l55_1, builtinA, g1, decide_true, reduceEqDiff, Nat.reduceBEq, reduceAdd, reduceIte, reduceCtorEq, reduceLeDiff]
   refine cp n59 hK (SubL.cons (Sub.refl _) (SubL.cons (Sub.unk _ _ _) (SubL.refl []))) ?_
   simp only [go_sem, reduceEqDiff, Nat.reduceBEq, reduceAdd, reduceIte, reduceCtorEq, reduceLeDiff]
   refine cp n71 hR (SubL.refl _) ?_
   rw [etwo]
   cases hpo : possB (twoL l i (i + 1 + j))
   ·have hat : clashAt l i (i + 1 + j) = some (i, i + 1 + j) := by unfold clashAt; rw [hpo]; rfl
    rw [hat] at hP2
    simp only at hP2
    rw [hP2] at hP
    simp only at hP
    simp only [go_sem, un_not, Bool.not_false, Tryz.f55, reduceEqDiff, Nat.reduceBEq, reduceAdd, reduceIte, reduceCtorEq, reduceLeDiff]
    unfold rclashA
    rw [hP]
   ·have hat : clashAt l i (i + 1 + j) = none := by unfold clashAt; rw [hpo]; rfl
    rw [hat] at hP2
    simp only at hP2
    simp only [go_sem, un_not, Bool.not_true, g6, reduceEqDiff, Nat.reduceBEq, reduceAdd, reduceIte, reduceCtorEq, reduceLeDiff]
    refine hI2' (by rw [hP2, show i + 1 + j + 1 = i + 1 + (j + 1) by omega, show l.counts.length - (i + 1) - (j + 1) = q by omega])
  ·have g1 : ¬ ((i + 1 + j : Nat) : Int) < l.counts.length := by omega
   rw [show l.counts.length - (i + 1) - j = 0 by omega] at hP2
   have hrow : clashRow l i = none := hP2
   rw [hrow] at hP
   simp only at hP
   simp only [go_sem, l55_1, builtinA, g1, decide_false, h6, reduceEqDiff, Nat.reduceBEq, reduceAdd, reduceIte, reduceCtorEq, reduceLeDiff]
   exact hI' (by rw [hP, show l.counts.length - (i + 1) = r by omega])
 ·have h1 : ¬ (i : Int) < l.counts.length := by omega
  rw [show l.counts.length - i = 0 by omega] at hP
  simp only [go_sem, l55_0, builtinA, h1, decide_false, Tryz.f55, reduceEqDiff, Nat.reduceBEq, reduceAdd, reduceIte, reduceCtorEq, reduceLeDiff]
  unfold rclashA
  rw [hP]; rfl
end Go.Av.Fx
end
section
namespace Go.Av.Fx
open Go Go.Av Go.Av.Tb Go.Proofs
def dropM (p : List Int → Bool) (below : Nat) : Nat → List Int → Nat → Option (List Int)
 | 0, now, _ => if p now = true then some now else none
 | m + 1, now, fr => firstN (fun n => dropM p below m (now ++ [(n : Int)]) (n + 1)) fr (below - fr)
theorem firstN_more {f : Nat → Option (List Int)} (s : Nat) : ∀ (r n : Nat), (∀ i, n + r ≤ i → i < n + r + s → f i = none) → firstN f n (r + s) = firstN f n r
 | 0, n, h => by
  rw [Nat.zero_add]
  induction s generalizing n with
  | zero => rfl
  | succ s ih =>
   unfold firstN
   rw [h n (by omega) (by omega)]
   exact ih (n + 1) fun i h1 h2 => h i (by omega) (by omega)
 | r + 1, n, h => by
  rw [show r + 1 + s = (r + s) + 1 by omega]
  unfold firstN
  cases f n with
  | some x => rfl
  | none => exact firstN_more s r (n + 1) fun i h1 h2 => h i (by omega) (by omega)
theorem search_none {p : List Int → Bool} {below m : Nat} {now : List Int} {fr : Nat} (h : below < fr + m) (hm : 0 < m) : searchL p below m now fr = none := by
 cases m with
 | zero => omega
 | succ m =>
  unfold searchL
  rw [show below + 1 - (fr + (m + 1)) = 0 by omega]; rfl
theorem drop_eq' (p : List Int → Bool) (below : Nat) : ∀ (m : Nat) (now : List Int) (fr : Nat), dropM p below m now fr = searchL p below m now fr
 | 0, now, fr => rfl
 | m + 1, now, fr => by
  unfold dropM searchL
  have e : (fun n : Nat => dropM p below m (now ++ [(n : Int)]) (n + 1)) = fun n : Nat => searchL p below m (now ++ [(n : Int)]) (n + 1) := by
   funext n; exact drop_eq' p below m _ _
  rw [e]
  obtain ⟨s, hs⟩ : ∃ s, below - fr = (below + 1 - (fr + (m + 1))) + s := ⟨below - fr - (below + 1 - (fr + (m + 1))), by omega⟩
  rw [hs]
  refine firstN_more s _ _ fun i h1 h2 => ?_
  exact search_none (by omega) (by omega)
def dropA (p : List Int → Bool) (below m : Nat) (now : List Int) (fr : Nat) : AV := match m with
 | 0 => .tuple [sl now, .bool (p now)]
 | m + 1 => match dropM p below (m + 1) now fr with
  | some r => .tuple [sl r, .bool true]
  | none => .tuple [sl [], .bool false]
theorem dropA_bnd (p : List Int → Bool) (below m : Nat) (now : List Int) (fr : Nat) : (dropA p below m now fr).bnd 0 0 = true := by
 unfold dropA
 split
 ·simp [bndL, AV.bnd]
 ·split <;> simp [bndL, AV.bnd]
theorem dropA_is (p : List Int → Bool) (below m : Nat) (now : List Int) (fr : Nat) : ∃ x : List Int, dropA p below m now fr = .tuple [sl x, .bool (dropM p below m now fr).isSome] ∧ ∀ r, dropM p below m now fr = some r → x = r := by
 unfold dropA
 cases m with
 | zero =>
  refine ⟨now, ?_, fun r hr => ?_⟩
  ·unfold dropM
   cases p now <;> rfl
  ·unfold dropM at hr
   split at hr
   ·cases hr; rfl
   ·cases hr
 | succ m =>
  cases hd : dropM p below (m + 1) now fr with
  | some r => exact ⟨r, by simp only [hd]; rfl, fun r' h => by cases h; rfl⟩
  | none => exact ⟨[], by simp only [hd]; rfl, fun r' h => by cases h⟩
theorem app_nil22 {S : St} {l : List Int} {t : Tail} (h0 : 0 < l.length) (hl : l.length ≤ 1000) : appendA T S 22 .nilS (.slice (ints l) l.length t) = some (.tok none fun j => .slice (ints l) l.length (.tok j)) := by
 have h1 : descOf T 22 = some (.slice 3) := rfl
 have h2 : T 3 = some ti3 := rfl
 have h3 : ti3.size = 1 := rfl
 have h4 : ti3.bytes = 8 := rfl
 have h5 : heldA S 1 (.slice (ints l) l.length t) = some (ints l, l.length) := by
  show (if (ints l).length = l.length * 1 then some (ints l, l.length) else none) = _
  rw [if_pos (by rw [ints_len]; omega)]
 unfold appendA
 simp only [h1, h2, h3, h4, h5, ints_all, Bool.not_true, Bool.false_eq_true, if_false]
 rw [if_neg (by decide), if_neg (by omega), if_pos (by omega)]
theorem app_tok22 {S : St} {l : List Int} {c : Int} {k : Nat} (hl : l.length ≤ 1000) : appendA T S 22 (.slice (ints l) l.length (.tok k)) (.slice [.int .i64 c] 1 .exact) = some (.tok (some k) fun j => .slice (ints (l ++ [c])) (l.length + 1) (.tok j)) := by
 rw [app_gen (e := 3) (ei := ti3) (lx := [.int .i64 c]) (nx := 1) rfl rfl (by decide) rfl (by decide) rfl (by show (l.length + 1) * 8 ≤ _; omega) (by omega) (by rw [ints_len]; simp [ti3])]
 show some (Res.tok (some k) fun j => .slice (ints l ++ ints [c]) (l.length + 1) (.tok j)) = _
 have : ints l ++ ints [c] = ints (l ++ [c]) := by simp [ints]
 rw [this]
theorem sl_snoc {l : List Int} {c : Int} {j : Nat} : Sub (.slice (ints (l ++ [c])) (l.length + 1) (.tok j)) (sl (l ++ [c])) := by
 have e : (l ++ [c]).length = l.length + 1 := by simp
 show Sub _ (.slice (ints (l ++ [c])) (l ++ [c]).length .unk)
 rw [e]; exact Sub.unk _ _ _
theorem firstN_step (f : Nat → Option (List Int)) (n r : Nat) : firstN f n (r + 1) = match f n with | some x => some x | none => firstN f (n + 1) r := rfl
theorem drop_loop (l : LLine) (hc : l.counts.length ≤ 8) (many : Nat) (now : List Int) (hn : now.length ≤ 1000) (fr m : Nat) (p : List Int → Bool) (hf : fr ≤ 1000)
  (ih : ∀ n : Nat, n < l.counts.length → PC Tryz.prog 106 [lineA l, sl (now ++ [(n : Int)]), .int .i64 many] (.pure (dropA p l.counts.length m (now ++ [(n : Int)]) (n + 1)))) (Q : AQ)
  (hret : ∀ r nt toks, firstN (fun n => dropM p l.counts.length m (now ++ [(n : Int)]) (n + 1)) fr (l.counts.length - fr) = some r → Q .ret [(6, sl r), (7, .bool true)] ⟨[some (.cells (lineC l))], nt, toks⟩)
  (hend : firstN (fun n => dropM p l.counts.length m (now ++ [(n : Int)]) (n + 1)) fr (l.counts.length - fr) = none → ∀ k : Int, Q .normal [(1, sl now), (2, .int .i64 many), (3, .ref 0 0), (9, .int .i64 k), (36, .bool false)] ⟨[some (.cells (lineC l))], 0, []⟩) :
  WC (E 52) (.loop l106_0) (blockQ 0 Q) [(1, sl now), (2, .int .i64 many), (3, .ref 0 0), (9, .int .i64 fr)] ⟨[some (.cells (lineC l))], 0, []⟩ := by
 generalize hF : (fun n : Nat => dropM p l.counts.length m (now ++ [(n : Int)]) (n + 1)) = F at hret hend
 refine wc_forT (l.counts.length - fr) (fun k => firstN F fr (l.counts.length - fr) = firstN F (fr + k) (l.counts.length - fr - k)) (fun k => [(1, sl now), (2, .int .i64 many), (3, .ref 0 0), (9, .int .i64 (fr + k : Nat))])
  (fun _ => ⟨[some (.cells (lineC l))], 0, []⟩) rfl rfl rfl (fun k hk => ?_) ?_
 ·refine ⟨Nat.zero_le _, Nat.zero_le _, by simp [bndTS, AV.bnd], fun i B hB => ?_, fun t ht => by cases ht⟩
  match i, hB with
  | 0, hB => simp at hB; subst hB; simp [Blk.bnd, bndL, AV.bnd]
  | i + 1, hB => simp at hB
 intro k hk hP I hI
 obtain ⟨C, hB⟩ : ∃ C, l106_0 = .seq (.seq (.region [1, 2, 3, 9, 36] r106_7) (.cond (.tmp 36) .skip (.exit 0))) C := ⟨_, rfl⟩
 have hB2 := hB
 rw [hB]
 by_cases h : fr + k < l.counts.length
 ·have h1 : ((fr + k : Nat) : Int) < l.counts.length := by omega
  have h4 : IntKind.i64.wrap (((fr + k : Nat) : Int) + 1) = (fr + (k + 1) : Nat) := wrap64 (by omega)
  have hI := hI (by omega)
  obtain ⟨q, hq⟩ : ∃ q, l.counts.length - fr - k = q + 1 := ⟨l.counts.length - fr - k - 1, by omega⟩
  rw [hq, firstN_step] at hP
  obtain ⟨x, ex, hx⟩ := dropA_is p l.counts.length m (now ++ [((fr + k : Nat) : Int)]) (fr + k + 1)
  have hC := ih (fr + k) h
  rw [ex] at hC
  have eF : F (fr + k) = dropM p l.counts.length m (now ++ [((fr + k : Nat) : Int)]) (fr + k + 1) := by rw [← hF]
  rw [← eF] at hC hx
  simp only [go_sem, builtinA, h1, decide_true, reduceEqDiff, Nat.reduceBEq, reduceAdd, reduceIte, reduceCtorEq, reduceLeDiff]
  unfold l106_0 at hB2
  injection hB2 with _ hB2
  subst hB2
  simp only [go_sem, builtinA, decide_true, reduceEqDiff, Nat.reduceBEq, reduceAdd, reduceIte, reduceCtorEq, reduceLeDiff]
  rcases Nat.eq_zero_or_pos now.length with h0 | h0
  ·have hnow : now = [] := List.length_eq_zero_iff.1 h0
   have a1 : ∀ S, appendA T S 22 .nilS (sl now) = some (.pure .nilS) := fun S => by rw [hnow]; rfl
   have a2 : ∀ S (c : Int), appendA T S 22 .nilS (.slice [.int .i64 c] 1 .exact) = some (.tok none fun j => .slice [.int .i64 c] 1 (.tok j)) := fun S c => rfl
   simp only [go_sem, builtinA, a1, a2, reduceEqDiff, Nat.reduceBEq, reduceAdd, reduceIte, reduceCtorEq, reduceLeDiff]
   refine qp n106 hC (SubL.cons (Sub.refl _) (SubL.cons (by rw [hnow]; exact Sub.unk _ _ _) (SubL.cons (Sub.refl _) (SubL.refl [])))) ?_
   cases hr : F (fr + k) with
   | none =>
    rw [hr] at hP
    simp only [go_sem, extractA, Option.isSome_none, h4, reduceEqDiff, Nat.reduceBEq, reduceAdd, reduceIte, reduceCtorEq, reduceLeDiff]
    exact hI (by rw [hP, show fr + k + 1 = fr + (k + 1) by omega, show l.counts.length - fr - (k + 1) = q by omega]) _ _ (Nat.zero_le _) (fun t ht => by cases ht)
   | some r =>
    rw [hr] at hP
    rw [hx r hr]
    simp only [go_sem, extractA, Option.isSome_some, reduceEqDiff, Nat.reduceBEq, reduceAdd, reduceIte, reduceCtorEq, reduceLeDiff]
    exact hret r _ _ hP
  ·have a1 : ∀ S, appendA T S 22 .nilS (sl now) = some (.tok none fun j => .slice (ints now) now.length (.tok j)) := fun S => app_nil22 h0 hn
   have a2 : ∀ S k' (c : Int), appendA T S 22 (.slice (ints now) now.length (.tok k')) (.slice [.int .i64 c] 1 .exact) = some (.tok (some k') fun j => .slice (ints (now ++ [c])) (now.length + 1) (.tok j)) := fun S k' c => app_tok22 hn
   simp only [go_sem, builtinA, a1, a2, reduceEqDiff, Nat.reduceBEq, reduceAdd, reduceIte, reduceCtorEq, reduceLeDiff]
   refine ⟨List.mem_cons_self, ?_⟩
   refine qp n106 hC (SubL.cons (Sub.refl _) (SubL.cons sl_snoc (SubL.cons (Sub.refl _) (SubL.refl [])))) ?_
   cases hr : F (fr + k) with
   | none =>
    rw [hr] at hP
    simp only [go_sem, extractA, Option.isSome_none, h4, reduceEqDiff, Nat.reduceBEq, reduceAdd, reduceIte, reduceCtorEq, reduceLeDiff]
    exact hI (by rw [hP, show fr + k + 1 = fr + (k + 1) by omega, show l.counts.length - fr - (k + 1) = q by omega]) _ _ (Nat.zero_le _) (fun t ht => by cases ht)
   | some r =>
    rw [hr] at hP
    rw [hx r hr]
    simp only [go_sem, extractA, Option.isSome_some, reduceEqDiff, Nat.reduceBEq, reduceAdd, reduceIte, reduceCtorEq, reduceLeDiff]
    exact hret r _ _ hP
 ·have h1 : ¬ ((fr + k : Nat) : Int) < l.counts.length := by omega
  rw [show l.counts.length - fr - k = 0 by omega] at hP
  simp only [go_sem, builtinA, h1, decide_false, reduceEqDiff, Nat.reduceBEq, reduceAdd, reduceIte, reduceCtorEq, reduceLeDiff]
  exact hend hP _
def After (now : List Int) (fr : Nat) : Prop := (now.length = 0 ∧ fr = 0) ∨ ∃ k, now.length = k + 1 ∧ now[k]? = some ((fr : Int) - 1)
theorem dropped_pc (l : LLine) (h : Ln l) (many : Nat) (hm : many ≤ 100) : ∀ (m : Nat) (now : List Int) (fr : Nat), now.length + m = many → After now fr → fr ≤ 100 →
  PC Tryz.prog 106 [lineA l, sl now, .int .i64 many] (.pure (dropA (fun w => possB (withoutL l w)) l.counts.length m now fr))
 | 0, now, fr, hl, ha, hf => by
  have hc := h.cts
  refine PC.of_empty (AC.run (E_ok _) mix Tryz.func106 m106 rfl rfl rfl (Nat.le_of_ble_eq_true rfl) ?_) (by simp [bndL, AV.bnd]) (dropA_bnd _ _ _ _ _)
  have h1 : (now.length : Int) = many := by omega
  have hw := (without_ln h now).lw
  have hR := rPoss_pc _ hw
  rw [rPoss_eq hw] at hR
  simp only [go_sem, boxA, builtinA, h1, decide_true, reduceEqDiff, Nat.reduceBEq, reduceAdd, reduceIte, reduceCtorEq, reduceLeDiff]
  refine cp n58 (Without_pc l (by omega) now (by omega)) (SubL.refl _) ?_
  simp only [go_sem, reduceEqDiff, Nat.reduceBEq, reduceAdd, reduceIte, reduceCtorEq, reduceLeDiff]
  refine cp n71 hR (SubL.refl _) ?_
  simp only [go_sem, Tryz.f106, reduceEqDiff, Nat.reduceBEq, reduceAdd, reduceIte, reduceCtorEq, reduceLeDiff]
  rfl
 | m + 1, now, fr, hl, ha, hf => by
  have hc := h.cts
  refine PC.of_frz (AC.run (E_ok _) mix Tryz.func106 m106 rfl rfl rfl (Nat.le_of_ble_eq_true rfl) ?_) (by simp [bndL, AV.bnd]) (dropA_bnd _ _ _ _ _)
  have h1 : ¬ ((now.length : Int) = many) := by omega
  have ih : ∀ n : Nat, n < l.counts.length → PC Tryz.prog 106 [lineA l, sl (now ++ [(n : Int)]), .int .i64 many] (.pure (dropA (fun w => possB (withoutL l w)) l.counts.length m (now ++ [(n : Int)]) (n + 1))) := fun n hn =>
   dropped_pc l h many hm m (now ++ [(n : Int)]) (n + 1) (by simp; omega) (.inr ⟨now.length, by simp, by
    rw [List.getElem?_append_right (Nat.le_refl _), Nat.sub_self]
    show some (n : Int) = _
    rw [show (((n + 1 : Nat) : Int) - 1) = n by omega]⟩) (by omega)
  have hA : dropA (fun w => possB (withoutL l w)) l.counts.length (m + 1) now fr = match firstN (fun n => dropM (fun w => possB (withoutL l w)) l.counts.length m (now ++ [(n : Int)]) (n + 1)) fr (l.counts.length - fr) with
   | some r => .tuple [sl r, .bool true]
   | none => .tuple [sl [], .bool false] := rfl
  rw [hA]
  have loop := drop_loop l hc many now (by omega) fr m (fun w => possB (withoutL l w)) (by omega) ih
  rcases ha with ⟨h0, rfl⟩ | ⟨k, hk1, hk2⟩
  ·have z : ¬ ((now.length : Int) > 0) := by omega
   simp only [go_sem, boxA, builtinA, h1, z, decide_false, reduceEqDiff, Nat.reduceBEq, reduceAdd, reduceIte, reduceCtorEq, reduceLeDiff]
   refine loop _ (fun r nt toks hr => ?_) (fun hr k => ?_)
   ·rw [hr]
    simp only [go_sem, Tryz.f106, reduceEqDiff, Nat.reduceBEq, reduceAdd, reduceIte, reduceCtorEq, reduceLeDiff]
    exact ⟨_, rfl, .same _⟩
   ·rw [hr]
    simp only [go_sem, Tryz.f106, reduceEqDiff, Nat.reduceBEq, reduceAdd, reduceIte, reduceCtorEq, reduceLeDiff]
    exact ⟨_, rfl, Frz.two .nil (.same _)⟩
  ·have z : (now.length : Int) > 0 := by omega
   have w1 : IntKind.i64.wrap ((now.length : Int) - 1) = (k : Nat) := by rw [wrap64 (by omega)]; omega
   have w2 : 0 ≤ (k : Int) ∧ (k : Int) < now.length := by omega
   have w3 : IntKind.i64.wrap ((fr : Int) - 1 + 1) = fr := by rw [wrap64 (by omega)]; omega
   simp only [go_sem, boxA, builtinA, h1, z, decide_false, decide_true, w1, w2, ints_get, hk2, Option.map_some, w3, reduceEqDiff, Nat.reduceBEq, reduceAdd, reduceIte, reduceCtorEq, reduceLeDiff]
   refine loop _ (fun r nt toks hr => ?_) (fun hr k => ?_)
   ·rw [hr]
    simp only [go_sem, Tryz.f106, reduceEqDiff, Nat.reduceBEq, reduceAdd, reduceIte, reduceCtorEq, reduceLeDiff]
    exact ⟨_, rfl, .same _⟩
   ·rw [hr]
    simp only [go_sem, Tryz.f106, reduceEqDiff, Nat.reduceBEq, reduceAdd, reduceIte, reduceCtorEq, reduceLeDiff]
    exact ⟨_, rfl, Frz.two .nil (.same _)⟩
end Go.Av.Fx
end
section
namespace Go.Av.Fx
open Go Go.Av Go.Av.Tb Go.Proofs
theorem dropA0 (p : List Int → Bool) (below m : Nat) : dropA p below m [] 0 = .tuple [sl ((searchL p below m [] 0).getD []), .bool (searchL p below m [] 0).isSome] := by
 rw [← drop_eq']
 unfold dropA
 cases m with
 | zero =>
  unfold dropM
  cases p [] <;> rfl
 | succ m =>
  cases hd : dropM p below (m + 1) [] 0 with
  | some r => simp only [hd]; rfl
  | none => simp only [hd]; rfl
theorem rWrong_pc (l : LLine) (h : Ln l) : PC Tryz.prog 56 [lineA l] (.pure (sl (wrongL l))) := by
 have hc := h.cts
 refine PC.of_empty (AC.run (E_ok _) mix Tryz.func56 m56 rfl rfl rfl (Nat.le_of_ble_eq_true rfl) ?_) (by simp [bndL, AV.bnd]) (by simp [AV.bnd])
 have hD : ∀ m : Nat, m ≤ 100 → PC Tryz.prog 106 [lineA l, sl [], .int .i64 m] (.pure (.tuple [sl ((searchL (fun w => possB (withoutL l w)) l.counts.length m [] 0).getD []), .bool (searchL (fun w => possB (withoutL l w)) l.counts.length m [] 0).isSome])) := fun m hm => by
  rw [← dropA0]
  exact dropped_pc l h m hm m [] 0 (by simp) (.inl ⟨rfl, rfl⟩) (by omega)
 have hW : wrongL l = (firstN (fun m => searchL (fun w => possB (withoutL l w)) l.counts.length m [] 0) 0 (l.counts.length + 1)).getD [] := rfl
 rw [hW]
 clear hW
 generalize hG : (fun m : Nat => searchL (fun w => possB (withoutL l w)) l.counts.length m [] 0) = G
 have hD' : ∀ m : Nat, m ≤ 100 → PC Tryz.prog 106 [lineA l, sl [], .int .i64 m] (.pure (.tuple [sl ((G m).getD []), .bool (G m).isSome])) := fun m hm => by rw [← hG]; exact hD m hm
 clear hD hG
 generalize hWW : firstN G 0 (l.counts.length + 1) = W
 simp only [go_sem, boxA, reduceEqDiff, Nat.reduceBEq, reduceAdd, reduceIte, reduceCtorEq, reduceLeDiff]
 refine wc_forP l.counts.length (fun k => W = firstN G k (l.counts.length + 1 - k)) (fun k => [(1, .ref 0 0), (3, .int .i64 k)]) (fun _ => ⟨[some (.cells (lineC l))], 0, []⟩) hWW.symm rfl rfl ?_
 clear hWW
 intro k hk hP I hI
 obtain ⟨C, hB⟩ : ∃ C, l56_0 = .seq (.seq (.region [1, 3, 12] r56_2) (.cond (.tmp 12) .skip (.exit 0))) C := ⟨_, rfl⟩
 have hB2 := hB
 rw [hB]
 by_cases g : k < l.counts.length
 ·have h1 : (k : Int) < l.counts.length := by omega
  have h4 : IntKind.i64.wrap ((k : Int) + 1) = (k + 1 : Nat) := wrap64 (by omega)
  have hI := hI g
  rw [show l.counts.length + 1 - k = (l.counts.length - k) + 1 by omega, firstN_step] at hP
  have hC := hD' k (by omega)
  simp only [go_sem, builtinA, h1, decide_true, reduceEqDiff, Nat.reduceBEq, reduceAdd, reduceIte, reduceCtorEq, reduceLeDiff]
  unfold l56_0 at hB2
  injection hB2 with _ hB2
  subst hB2
  simp only [go_sem, reduceEqDiff, Nat.reduceBEq, reduceAdd, reduceIte, reduceCtorEq, reduceLeDiff]
  refine cp n106 hC (SubL.cons (Sub.refl _) (SubL.cons Sub.nil (SubL.cons (Sub.refl _) (SubL.refl [])))) ?_
  cases hr : G k with
  | none =>
   rw [hr] at hP
   simp only [go_sem, extractA, Option.isSome_none, h4, reduceEqDiff, Nat.reduceBEq, reduceAdd, reduceIte, reduceCtorEq, reduceLeDiff]
   exact hI (by rw [hP, show l.counts.length + 1 - (k + 1) = l.counts.length - k by omega])
  | some r =>
   rw [hr] at hP
   have hg : (some r : Option (List Int)).getD [] = r := rfl
   simp only [go_sem, extractA, Option.isSome_some, hg, Tryz.f56, reduceEqDiff, Nat.reduceBEq, reduceAdd, reduceIte, reduceCtorEq, reduceLeDiff]
   rw [hP]; rfl
 ·have h1 : ¬ (k : Int) < l.counts.length := by omega
  have ek : k = l.counts.length := by omega
  subst ek
  rw [show l.counts.length + 1 - l.counts.length = 0 + 1 by omega, firstN_step] at hP
  simp only [go_sem, builtinA, h1, decide_false, reduceEqDiff, Nat.reduceBEq, reduceAdd, reduceIte, reduceCtorEq, reduceLeDiff]
  refine cp n106 (hD' _ (by omega)) (SubL.cons (Sub.refl _) (SubL.cons Sub.nil (SubL.cons (Sub.refl _) (SubL.refl [])))) ?_
  simp only [go_sem, extractA, Tryz.f56, reduceEqDiff, Nat.reduceBEq, reduceAdd, reduceIte, reduceCtorEq, reduceLeDiff]
  rw [hP]
  cases G l.counts.length <;> rfl
end Go.Av.Fx
end
section
namespace Go.Av.Fx
open Go Go.Av Go.Av.Tb Go.Proofs
theorem search_len {p : List Int → Bool} {below : Nat} : ∀ (m : Nat) (now : List Int) (fr : Nat) (x : List Int), searchL p below m now fr = some x → x.length = now.length + m
 | 0, now, fr, x, e => by
  unfold searchL at e
  split at e
  ·cases e; rfl
  ·cases e
 | m + 1, now, fr, x, e => by
  unfold searchL at e
  have : ∀ (r n : Nat) (x : List Int), firstN (fun n => searchL p below m (now ++ [(n : Int)]) (n + 1)) n r = some x → x.length = now.length + (m + 1) := by
   intro r
   induction r with
   | zero => intro n x e; cases e
   | succ r ih =>
    intro n x e
    rw [firstN_step] at e
    cases hf : searchL p below m (now ++ [(n : Int)]) (n + 1) with
    | some y =>
     simp only [hf] at e
     cases e
     have := search_len m _ _ _ hf
     simp at this; omega
    | none =>
     simp only [hf] at e
     exact ih (n + 1) x e
  exact this _ _ _ e
theorem wrong_len (l : LLine) : (wrongL l).length ≤ l.counts.length := by
 unfold wrongL shortestL
 have : ∀ (r n : Nat) (x : List Int), n + r ≤ l.counts.length + 1 → firstN (fun m => searchL (fun w => possB (withoutL l w)) l.counts.length m [] 0) n r = some x → x.length ≤ l.counts.length := by
  intro r
  induction r with
  | zero => intro n x _ e; cases e
  | succ r ih =>
   intro n x hn e
   rw [firstN_step] at e
   cases hf : searchL (fun w => possB (withoutL l w)) l.counts.length n [] 0 with
   | some y =>
    simp only [hf] at e
    cases e
    have := search_len n _ _ _ hf
    simp at this; omega
   | none =>
    simp only [hf] at e
    exact ih (n + 1) x (by omega) e
 cases hx : firstN (fun m => searchL (fun w => possB (withoutL l w)) l.counts.length m [] 0) 0 (l.counts.length + 1) with
 | none => exact Nat.zero_le _
 | some x => exact this _ _ _ (by omega) hx
set_option maxHeartbeats 4000000 in
theorem LeakClashes_pc (l : LLine) (ok : okLine l) : PC Tryz.prog 10 [lineA l] (.pure (.bool true)) := by
 refine PC.of_empty (AC.run (E_ok _) mix Tryz.func10 m10 rfl rfl rfl (Nat.le_of_ble_eq_true rfl) ?_) (by simp [bndL, AV.bnd]) rfl
 simp only [go_sem, boxA, reduceEqDiff, Nat.reduceBEq, reduceAdd, reduceIte, reduceCtorEq, reduceLeDiff]
 refine cp n19 (short_pc l) (SubL.refl _) ?_
 cases hsh : (decide ((l.gives.length : Int) ≤ 7) && decide ((l.counts.length : Int) ≤ 10))
 ·simp only [go_sem, un_not, Bool.not_false, reduceEqDiff, Nat.reduceBEq, reduceAdd, reduceIte, reduceCtorEq, reduceLeDiff]
  refine cp n20 known_pc (SubL.refl _) ?_
  simp only [go_sem, Tryz.f10, reduceEqDiff, Nat.reduceBEq, reduceAdd, reduceIte, reduceCtorEq, reduceLeDiff]
 simp only [go_sem, un_not, Bool.not_true, reduceEqDiff, Nat.reduceBEq, reduceAdd, reduceIte, reduceCtorEq, reduceLeDiff]
 have hC := Clash_pc l ok
 have hW := Wrong_pc l ok
 have hL := rLine_pc l ok
 unfold clashA at hC
 unfold wrongA at hW
 have z00 : decide ((0 : Int) = 0) = true := rfl
 have z22 : decide ((2 : Int) = 2) = true := rfl
 have y0 : ¬ ((0 : Int) ≠ 0) := by decide
 have y5 : ¬ ((5 : Int) ≠ 5) := by decide
 cases h : isLineB l
 ·rw [if_neg (by rw [h]; decide)] at hC hW
  rw [h] at hL
  refine cp n53 hC (SubL.refl _) ?_
  simp only [go_sem, extractA, reduceEqDiff, Nat.reduceBEq, reduceAdd, reduceIte, reduceCtorEq, reduceLeDiff]
  refine cp n54 hW (SubL.refl _) ?_
  simp only [go_sem, extractA, reduceEqDiff, Nat.reduceBEq, reduceAdd, reduceIte, reduceCtorEq, reduceLeDiff]
  refine cp n28 hL (SubL.refl _) ?_
  simp only [go_sem, un_not, Bool.not_false, z00, z22, decide_true, builtinA, reduceEqDiff, Nat.reduceBEq, reduceAdd, reduceIte, reduceCtorEq, reduceLeDiff]
  refine cp n20 known_pc (SubL.refl _) ?_
  simp only [go_sem, Tryz.f10, reduceEqDiff, Nat.reduceBEq, reduceAdd, reduceIte, reduceCtorEq, reduceLeDiff]
 have hln := isLine_iff.1 h
 have hw := hln.lw
 have hcts := hln.cts
 rw [if_pos h] at hC hW
 rw [h] at hL
 have hRC := rClash_pc l hw (by omega)
 unfold rclashA at hRC
 have hRW := rWrong_pc l hln
 have hwl := wrong_len l
 have hS := Same_pc (wrongL l) (wrongL l) (by show _ < _; omega) (by show _ < _; omega)
 rw [decide_eq_true rfl] at hS
 generalize wrongL l = W at *
 cases hc : clashL l with
 | none =>
  rw [hc] at hC hRC
  refine cp n53 hC (SubL.refl _) ?_
  simp only [go_sem, extractA, reduceEqDiff, Nat.reduceBEq, reduceAdd, reduceIte, reduceCtorEq, reduceLeDiff]
  refine cp n54 hW (SubL.refl _) ?_
  simp only [go_sem, extractA, reduceEqDiff, Nat.reduceBEq, reduceAdd, reduceIte, reduceCtorEq, reduceLeDiff]
  refine cp n28 hL (SubL.refl _) ?_
  simp only [go_sem, un_not, Bool.not_true, reduceEqDiff, Nat.reduceBEq, reduceAdd, reduceIte, reduceCtorEq, reduceLeDiff]
  refine cp n55 hRC (SubL.refl _) ?_
  simp only [go_sem, extractA, un_not, Bool.not_false, y0, y5, decide_false, decide_true, z00, reduceEqDiff, Nat.reduceBEq, reduceAdd, reduceIte, reduceCtorEq, reduceLeDiff]
  refine cp n56 hRW (SubL.refl _) ?_
  simp only [go_sem, reduceEqDiff, Nat.reduceBEq, reduceAdd, reduceIte, reduceCtorEq, reduceLeDiff]
  refine cp n50 hS (SubL.refl _) ?_
  simp only [go_sem, reduceEqDiff, Nat.reduceBEq, reduceAdd, reduceIte, reduceCtorEq, reduceLeDiff]
  refine cp n20 known_pc (SubL.refl _) ?_
  simp only [go_sem, Tryz.f10, reduceEqDiff, Nat.reduceBEq, reduceAdd, reduceIte, reduceCtorEq, reduceLeDiff]
 | some ik =>
  obtain ⟨i, k⟩ := ik
  rw [hc] at hC hRC
  have yi : ¬ ((i : Int) ≠ i) := fun hh => hh rfl
  have yk : ¬ ((k : Int) ≠ k) := fun hh => hh rfl
  refine cp n53 hC (SubL.refl _) ?_
  simp only [go_sem, extractA, reduceEqDiff, Nat.reduceBEq, reduceAdd, reduceIte, reduceCtorEq, reduceLeDiff]
  refine cp n54 hW (SubL.refl _) ?_
  simp only [go_sem, extractA, reduceEqDiff, Nat.reduceBEq, reduceAdd, reduceIte, reduceCtorEq, reduceLeDiff]
  refine cp n28 hL (SubL.refl _) ?_
  simp only [go_sem, un_not, Bool.not_true, reduceEqDiff, Nat.reduceBEq, reduceAdd, reduceIte, reduceCtorEq, reduceLeDiff]
  refine cp n55 hRC (SubL.refl _) ?_
  simp only [go_sem, extractA, un_not, Bool.not_true, y0, yi, yk, decide_false, decide_true, z00, reduceEqDiff, Nat.reduceBEq, reduceAdd, reduceIte, reduceCtorEq, reduceLeDiff]
  refine cp n56 hRW (SubL.refl _) ?_
  simp only [go_sem, reduceEqDiff, Nat.reduceBEq, reduceAdd, reduceIte, reduceCtorEq, reduceLeDiff]
  refine cp n50 hS (SubL.refl _) ?_
  simp only [go_sem, reduceEqDiff, Nat.reduceBEq, reduceAdd, reduceIte, reduceCtorEq, reduceLeDiff]
  refine cp n20 known_pc (SubL.refl _) ?_
  simp only [go_sem, Tryz.f10, reduceEqDiff, Nat.reduceBEq, reduceAdd, reduceIte, reduceCtorEq, reduceLeDiff]
end Go.Av.Fx
end
