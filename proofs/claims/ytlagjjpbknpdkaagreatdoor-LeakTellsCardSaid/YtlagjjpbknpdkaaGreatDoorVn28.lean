/- Part 28 of the proof. -/
import Derived.Test.YtlagjjpbknpdkaaGreatDoorVn27
import Derived.Test.YtlagjjpbknpdkaaGreatDoorVn25
import Derived.Test.YtlagjjpbknpdkaaGreatDoorVn26
import Derived.Test.YtlagjjpbknpdkaaGreatDoorVn20
import Derived.Test.YtlagjjpbknpdkaaGreatDoorVn14
import Derived.Test.YtlagjjpbknpdkaaGreatDoorRows
import Derived.ProofKit
import Derived.LaidMore
import Derived.OpenShut
import Derived.Deep.Slices
import Derived.Stop.Joined
import Derived.ChangeOld
import Derived.SizedLaws
import Derived.Test.YtlagjjpbknpdkaaGreatDoorTie
import Derived.Test.YtlagjjpbknpdkaaGreatDoorCards
import Derived.Lib.LaidTab
import Derived.Lib.ItoaNum
import Derived.Lay
import Derived.LaidOnce
import Derived.MakeChecks
import Derived.SevenTiedAt
import Derived.Test.YtlagjjpbknpdkaaGreatDoorVn21
set_option linter.all false
set_option linter.unusedVariables false
set_option linter.unusedSimpArgs false
set_option linter.unusedSectionVars false
open Nat (reduceEqDiff reduceAdd reduceLeDiff)
section
namespace Go.Av.Fx
open Go Go.Av Go.Av.Tb Go.Proofs
theorem Sub.map {α : Type} (f g : α → AV) (h : ∀ a, Sub (f a) (g a)) (L : List α) (n : Nat) (t : Tail) : Sub (.slice (L.map f) n t) (.slice (L.map g) n .unk) := by
 intro c x hx
 generalize hl : L.map f = l at hx
 cases hx with
 | slice _ _ _ b off cap vs hc hk hr he ht =>
  subst hl
  refine .slice _ n .unk b off cap vs hc (fun j hj => hk j (by simpa using hj)) (fun j y hy => ?_) (fun e => by cases e) (fun k e => by cases e)
  rw [List.getElem?_map] at hy
  cases e : L[j]? with
  | none => rw [e] at hy; cases hy
  | some a =>
   rw [e] at hy; cases hy
   exact h a c _ (hr j (f a) (by rw [List.getElem?_map, e]; rfl))
 | sliceNil _ ht =>
  have : L = [] := by simpa using hl
  subst this
  exact .sliceNil .unk (fun k e => by cases e)
theorem askM : askE lineM true = 0 := by simp [askE, kM_line, kM_poss]
theorem okM : okLine lineM := ⟨by decide, by decide⟩
theorem okN : okLine lineN := ⟨by decide, by decide⟩
theorem q1 : PC Tryz.prog 41 [lineA lineN] (.pure (.tuple [.bool false, .int .i64 0])) := by
 have := Possible_pc lineN okN
 rw [kN_line, kN_poss] at this; exact this
theorem q2 : PC Tryz.prog 22 [lineA lineM] (.pure (.tuple [sll [[0], [1], [2]], .int .i64 0])) := by
 have := Sets_pc lineM okM
 unfold setsA at this
 rw [if_pos askM, kM_sets] at this; exact this
theorem q3 : PC Tryz.prog 21 [lineA lineM] (.pure (.tuple [sl [2, 2, 2], .int .i64 0])) := by
 have := Known_pc lineM okM
 unfold knownA at this
 rw [if_pos askM, show lineM.gives.length = 3 from rfl, kM_words] at this; exact this
theorem q4 : PC Tryz.prog 34 [lineA lineM, .int .i64 1] (.pure (.tuple [spA ⟨78, 94⟩, .int .i64 0])) := by
 have := Flows_pc lineM okM 1
 unfold flowsA at this
 rw [show inB 1 0 lineM.gives.length = true from rfl, if_pos askM, show Int.toNat 1 = 1 from rfl, kM_flows] at this; exact this
theorem q5 : PC Tryz.prog 35 [lineA lineM, .int .i64 0, .int .i64 3] (.pure (.tuple [spA ⟨8, 15⟩, .int .i64 0])) := by
 have := Lost_pc lineM okM 0 3
 unfold lostA at this
 rw [show fineLost lineM 0 3 = true from rfl, if_pos askM, show Int.toNat 0 = 0 from rfl, show Int.toNat 3 = 3 from rfl, kM_lost] at this; exact this
theorem q6 : PC Tryz.prog 30 [lineA lineM, sl [1]] (.pure (.tuple [spA ⟨8, 15⟩, .int .i64 0])) := by
 have := Explains_pc lineM okM [1] (by decide)
 unfold explA at this
 rw [if_pos ⟨kM_line, by decide⟩, if_pos (show isSetB lineM [1] = true by decide +kernel)] at this
 have h := kM_expl
 cases hx : explM lineM [1] with
 | none => rw [hx] at h; cases h
 | some W =>
  rw [hx] at h this
  have h : lostS lineM W 0 3 = ⟨8, 15⟩ := by simpa using h
  simp only [show lineM.gives.length = 3 from rfl, h] at this
  exact this
theorem q7 : PC Tryz.prog 43 [lineA lineM, .int .i64 2] (.pure (.tuple [.int .i64 1, .int .i64 2, .int .i64 0])) := by
 have := Next_pc lineM okM 2
 unfold nextA at this
 rw [show inB 2 0 20 = true from rfl, if_pos askM, kM_next] at this; exact this
theorem q8 : PC Tryz.prog 47 [lineA lineM, sl [1, 2], .int .i64 2] (.pure (.tuple [.bool true, .int .i64 0])) := by
 have := Tells_pc lineM okM [1, 2] (by decide) 2
 unfold tellsA at this
 rw [show fineTells lineM [1, 2] 2 = true by decide +kernel, if_pos askM, kM_tells] at this; exact this
theorem q9 : PC Tryz.prog 48 [lineA lineM, .int .i64 2] (.pure (.tuple [sl [1, 2], .int .i64 0])) := by
 have := Plan_pc lineM okM 2
 unfold planA at this
 rw [show inB 2 0 20 = true from rfl, if_pos askM, kM_plan] at this; exact this
theorem q10 : PC Tryz.prog 53 [lineA lineN] (.pure (.tuple [.int .i64 0, .int .i64 2, .int .i64 0])) := by
 have := Clash_pc lineN okN
 unfold clashA at this
 rw [if_pos kN_line, kN_clash] at this; exact this
theorem q11 : PC Tryz.prog 54 [lineA lineN] (.pure (.tuple [sl [0], .int .i64 0])) := by
 have := Wrong_pc lineN okN
 unfold wrongA at this
 rw [if_pos kN_line, kN_wrong] at this; exact this
theorem q12 : PC Tryz.prog 61 [.str exT] (.pure (.tuple [lineA lineT, .int .i64 0])) := by
 have := Read_pc exT (by decide)
 unfold readA at this
 rw [if_pos (by decide), kT] at this
 simp only [if_pos kT_line] at this
 exact this
theorem q13 : PC Tryz.prog 62 [lineA lineT] (.pure (.str exT)) := by
 have := rPrint_pc lineT (isLine_iff.1 kT_line).plain
 rw [kT_text] at this; exact this
@[go_sem] theorem ne42a : binA T .neq 42 (.agg [.int .i64 78, .int .i64 94]) (.agg [.int .i64 78, .int .i64 94]) = some (.bool false) := rfl
@[go_sem] theorem ne42b : binA T .neq 42 (.agg [.int .i64 8, .int .i64 15]) (.agg [.int .i64 8, .int .i64 15]) = some (.bool false) := rfl
set_option maxRecDepth 100000 in
theorem known_pc : PC Tryz.prog 20 [] (.pure (.bool true)) := by
 refine PC.of_empty (AC.run (E_ok _) mix Tryz.func20 m20 rfl rfl rfl (Nat.le_of_ble_eq_true rfl) ?_) rfl rfl
 simp only [go_sem, reduceEqDiff, Nat.reduceBEq, reduceAdd, reduceIte, reduceCtorEq, reduceLeDiff]
 refine cp n73 N_pc (SubL.refl _) ?_
 simp only [go_sem, reduceEqDiff, Nat.reduceBEq, reduceAdd, reduceIte, reduceCtorEq, reduceLeDiff]
 refine cp n41 q1 (SubL.refl _) ?_
 simp only [go_sem, extractA, reduceEqDiff, Nat.reduceBEq, reduceAdd, reduceIte, reduceCtorEq, reduceLeDiff]
 refine cp n74 M_pc (SubL.refl _) ?_
 simp only [go_sem, reduceEqDiff, Nat.reduceBEq, reduceAdd, reduceIte, reduceCtorEq, reduceLeDiff]
 refine cp n22 q2 (SubL.refl _) ?_
 simp only [go_sem, extractA, reduceEqDiff, Nat.reduceBEq, reduceAdd, reduceIte, reduceCtorEq, reduceLeDiff]
 refine cp n74 M_pc (SubL.refl _) ?_
 simp only [go_sem, reduceEqDiff, Nat.reduceBEq, reduceAdd, reduceIte, reduceCtorEq, reduceLeDiff]
 refine cp n21 q3 (SubL.refl _) ?_
 simp only [go_sem, extractA, reduceEqDiff, Nat.reduceBEq, reduceAdd, reduceIte, reduceCtorEq, reduceLeDiff]
 refine cp n74 M_pc (SubL.refl _) ?_
 simp only [go_sem, reduceEqDiff, Nat.reduceBEq, reduceAdd, reduceIte, reduceCtorEq, reduceLeDiff]
 refine cp n34 q4 (SubL.refl _) ?_
 simp only [go_sem, extractA, put_eq, reduceEqDiff, Nat.reduceBEq, reduceAdd, reduceIte, reduceCtorEq, reduceLeDiff]
 refine cp n74 M_pc (SubL.refl _) ?_
 simp only [go_sem, reduceEqDiff, Nat.reduceBEq, reduceAdd, reduceIte, reduceCtorEq, reduceLeDiff]
 refine cp n35 q5 (SubL.refl _) ?_
 simp only [go_sem, extractA, put_eq, reduceEqDiff, Nat.reduceBEq, reduceAdd, reduceIte, reduceCtorEq, reduceLeDiff]
 refine cp n74 M_pc (SubL.refl _) ?_
 simp only [go_sem, reduceEqDiff, Nat.reduceBEq, reduceAdd, reduceIte, reduceCtorEq, reduceLeDiff]
 refine cp n30 q6 (SubL.cons (Sub.refl _) (SubL.cons (Sub.unk _ _ _) (SubL.refl _))) ?_
 simp only [go_sem, extractA, put_eq, reduceEqDiff, Nat.reduceBEq, reduceAdd, reduceIte, reduceCtorEq, reduceLeDiff]
 refine cp n74 M_pc (SubL.refl _) ?_
 simp only [go_sem, reduceEqDiff, Nat.reduceBEq, reduceAdd, reduceIte, reduceCtorEq, reduceLeDiff]
 refine cp n43 q7 (SubL.refl _) ?_
 simp only [go_sem, extractA, reduceEqDiff, Nat.reduceBEq, reduceAdd, reduceIte, reduceCtorEq, reduceLeDiff]
 refine cp n74 M_pc (SubL.refl _) ?_
 simp only [go_sem, reduceEqDiff, Nat.reduceBEq, reduceAdd, reduceIte, reduceCtorEq, reduceLeDiff]
 refine cp n47 q8 (SubL.cons (Sub.refl _) (SubL.cons (Sub.unk _ _ _) (SubL.refl _))) ?_
 simp only [go_sem, extractA, reduceEqDiff, Nat.reduceBEq, reduceAdd, reduceIte, reduceCtorEq, reduceLeDiff]
 refine cp n74 M_pc (SubL.refl _) ?_
 simp only [go_sem, reduceEqDiff, Nat.reduceBEq, reduceAdd, reduceIte, reduceCtorEq, reduceLeDiff]
 refine cp n48 q9 (SubL.refl _) ?_
 simp only [go_sem, extractA, reduceEqDiff, Nat.reduceBEq, reduceAdd, reduceIte, reduceCtorEq, reduceLeDiff]
 refine cp n73 N_pc (SubL.refl _) ?_
 simp only [go_sem, reduceEqDiff, Nat.reduceBEq, reduceAdd, reduceIte, reduceCtorEq, reduceLeDiff]
 refine cp n53 q10 (SubL.refl _) ?_
 simp only [go_sem, extractA, reduceEqDiff, Nat.reduceBEq, reduceAdd, reduceIte, reduceCtorEq, reduceLeDiff]
 refine cp n73 N_pc (SubL.refl _) ?_
 simp only [go_sem, reduceEqDiff, Nat.reduceBEq, reduceAdd, reduceIte, reduceCtorEq, reduceLeDiff]
 refine cp n54 q11 (SubL.refl _) ?_
 simp only [go_sem, extractA, reduceEqDiff, Nat.reduceBEq, reduceAdd, reduceIte, reduceCtorEq, reduceLeDiff]
 refine cp n61 q12 (SubL.refl _) ?_
 have z0 : ¬ ((0 : Int) ≠ 0) := by decide
 simp only [go_sem, extractA, put_eq, z0, decide_false, reduceEqDiff, Nat.reduceBEq, reduceAdd, reduceIte, reduceCtorEq, reduceLeDiff]
 refine cp n26 (SameSets_pc [[0], [1], [2]] [[0], [1], [2]] (by decide) (by decide) (by decide) (by decide)) (SubL.cons (Sub.refl _) (SubL.cons (Sub.map (fun s => .slice (ints s) s.length .exact) sl (fun s => Sub.unk _ _ _) [[0], [1], [2]] 3 .exact) (SubL.refl _))) ?_
 rw [decide_eq_true rfl]
 simp only [go_sem, un_not, Bool.not_true, reduceEqDiff, Nat.reduceBEq, reduceAdd, reduceIte, reduceCtorEq, reduceLeDiff]
 refine cp n24 (SameWords_pc [2, 2, 2] [2, 2, 2] (by decide) (by decide)) (SubL.cons (Sub.refl _) (SubL.cons (Sub.unk _ _ _) (SubL.refl _))) ?_
 rw [decide_eq_true rfl]
 have z1 : decide ((1 : Int) = 1) = true := rfl
 have z2 : decide ((2 : Int) = 2) = true := rfl
 have z3 : decide ((0 : Int) = 0) = true := rfl
 simp only [go_sem, un_not, Bool.not_true, put_eq, z1, z2, z3, decide_true, reduceEqDiff, Nat.reduceBEq, reduceAdd, reduceIte, reduceCtorEq, reduceLeDiff]
 refine cp n50 (Same_pc [1, 2] [1, 2] (by decide) (by decide)) (SubL.cons (Sub.refl _) (SubL.cons (Sub.unk _ _ _) (SubL.refl _))) ?_
 rw [decide_eq_true rfl]
 simp only [go_sem, un_not, Bool.not_true, put_eq, z1, z2, z3, decide_true, reduceEqDiff, Nat.reduceBEq, reduceAdd, reduceIte, reduceCtorEq, reduceLeDiff]
 refine cp n50 (Same_pc [0] [0] (by decide) (by decide)) (SubL.cons (Sub.refl _) (SubL.cons (Sub.unk _ _ _) (SubL.refl _))) ?_
 rw [decide_eq_true rfl]
 simp only [go_sem, un_not, Bool.not_true, put_eq, z1, z2, z3, decide_true, reduceEqDiff, Nat.reduceBEq, reduceAdd, reduceIte, reduceCtorEq, reduceLeDiff]
 refine cp n62 q13 (SubL.refl _) ?_
 have z4 : binA T .eql 9 (.str exT) (.str ⟨#[108, 105, 110, 101, 32, 49, 32, 49, 32, 48, 10, 115, 116, 114, 101, 116, 99, 104, 32, 48, 10, 101, 110, 100, 32, 48, 53, 49, 10]⟩) = some (.bool true) := (show binA T .eql 9 (.str exT) (.str exT) = some (.bool true) by rw [eqS, decide_eq_true rfl])
 simp only [go_sem, z4, Tryz.f20, reduceEqDiff, Nat.reduceBEq, reduceAdd, reduceIte, reduceCtorEq, reduceLeDiff]
end Go.Av.Fx
end
section
namespace Go.Av.Fx
open Go Go.Av Go.Av.Tb Go.Proofs
theorem askE_cases (l : LLine) (fine : Bool) : (askE l fine = 2 ∧ (isLineB l = false ∨ fine = false)) ∨ (askE l fine = 7 ∧ isLineB l = true ∧ fine = true ∧ possB l = false) ∨ (askE l fine = 0 ∧ isLineB l = true ∧ fine = true ∧ possB l = true) := by
 unfold askE
 cases isLineB l <;> cases fine <;> cases possB l <;> simp
end Go.Av.Fx
end
section
namespace Go.Av.Fx
open Go Go.Av Go.Av.Tb Go.Proofs
end Go.Av.Fx
end
section
namespace Go.Av.Fx
open Go Go.Av Go.Proofs
def Lx : List Int → List Int → Prop
 | a :: s, b :: t => a < b ∨ (a = b ∧ Lx s t)
 | _, _ => False
def Rs (below : Nat) : Nat → List Int → Prop
 | _, [] => True
 | fr, a :: s => ∃ n : Nat, a = n ∧ fr ≤ n ∧ n < below ∧ Rs below (n + 1) s
theorem firstN_some {f : Nat → Option (List Int)} : ∀ {r n : Nat} {x : List Int}, firstN f n r = some x → ∃ i, n ≤ i ∧ i < n + r ∧ f i = some x ∧ ∀ j, n ≤ j → j < i → f j = none
 | 0, n, x, e => by cases e
 | r + 1, n, x, e => by
  rw [firstN_step] at e
  cases hf : f n with
  | some y => simp only [hf] at e; cases e; exact ⟨n, Nat.le_refl _, by omega, hf, fun j h1 h2 => by omega⟩
  | none =>
   simp only [hf] at e
   obtain ⟨i, h1, h2, h3, h4⟩ := firstN_some e
   refine ⟨i, by omega, by omega, h3, fun j h5 h6 => ?_⟩
   by_cases ej : j = n
   ·subst ej; exact hf
   ·exact h4 j (by omega) h6
theorem firstN_none {f : Nat → Option (List Int)} : ∀ {r n : Nat}, firstN f n r = none → ∀ j, n ≤ j → j < n + r → f j = none
 | 0, n, e, j, h1, h2 => by omega
 | r + 1, n, e, j, h1, h2 => by
  rw [firstN_step] at e
  cases hf : f n with
  | some y => simp only [hf] at e; cases e
  | none =>
   simp only [hf] at e
   by_cases ej : j = n
   ·subst ej; exact hf
   ·exact firstN_none e j (by omega) (by omega)
theorem drop_some (p : List Int → Bool) (below : Nat) : ∀ (m : Nat) (now : List Int) (fr : Nat) (x : List Int), dropM p below m now fr = some x →
  p x = true ∧ ∃ s, x = now ++ s ∧ s.length = m ∧ Rs below fr s ∧ ∀ t, t.length = m → Rs below fr t → p (now ++ t) = true → ¬ Lx t s
 | 0, now, fr, x, e => by
  unfold dropM at e
  split at e
  ·cases e
   rename_i h
   exact ⟨h, [], by simp, rfl, trivial, fun t _ _ _ hx => by cases t <;> exact hx⟩
  ·cases e
 | m + 1, now, fr, x, e => by
  unfold dropM at e
  obtain ⟨i, h1, h2, h3, h4⟩ := firstN_some e
  obtain ⟨hp, s, e1, e2, e3, e4⟩ := drop_some p below m _ _ _ h3
  refine ⟨hp, (i : Int) :: s, by rw [e1]; simp, by simp [e2], ⟨i, rfl, h1, by omega, e3⟩, fun t ht hr hpt hx => ?_⟩
  cases t with
  | nil => cases ht
  | cons a t =>
   obtain ⟨n, rfl, g1, g2, g3⟩ := hr
   have hnt : now ++ (n : Int) :: t = (now ++ [(n : Int)]) ++ t := by simp
   rw [hnt] at hpt
   have htl : t.length = m := by simpa using ht
   rcases hx with hx | ⟨hx, hx2⟩
   ·have hn := h4 n g1 (by omega)
    exact drop_no p below m _ _ hn t htl g3 hpt
   ·have : n = i := by omega
    subst this
    exact e4 t htl g3 hpt hx2
where
 drop_no (p : List Int → Bool) (below : Nat) : ∀ (m : Nat) (now : List Int) (fr : Nat), dropM p below m now fr = none → ∀ t, t.length = m → Rs below fr t → p (now ++ t) = true → False
  | 0, now, fr, e, t, ht, hr, hp => by
   have : t = [] := List.length_eq_zero_iff.1 ht
   subst this
   rw [List.append_nil] at hp
   unfold dropM at e
   rw [if_pos hp] at e; cases e
  | m + 1, now, fr, e, t, ht, hr, hp => by
   cases t with
   | nil => cases ht
   | cons a t =>
    obtain ⟨n, rfl, g1, g2, g3⟩ := hr
    have hnt : now ++ (n : Int) :: t = (now ++ [(n : Int)]) ++ t := by simp
    rw [hnt] at hp
    unfold dropM at e
    exact drop_no p below m _ _ (firstN_none e n g1 (by omega)) t (by simpa using ht) g3 hp
theorem rs_len {below : Nat} : ∀ {fr : Nat} {t : List Int}, Rs below fr t → t.length + fr ≤ below ∨ t = []
 | fr, [], _ => .inr rfl
 | fr, a :: t, h => by
  obtain ⟨n, rfl, g1, g2, g3⟩ := h
  rcases rs_len g3 with h' | rfl
  ·left; simp; omega
  ·left; simp; omega
theorem rs_up {below : Nat} : ∀ {fr : Nat} {t : List Int}, Rs below fr t ↔ (∀ x ∈ t, (fr : Int) ≤ x ∧ x ≤ (below : Int) - 1) ∧ t.Pairwise (· < ·)
 | fr, [] => by simp [Rs]
 | fr, a :: t => by
  rw [List.pairwise_cons]
  constructor
  ·rintro ⟨n, rfl, g1, g2, g3⟩
   obtain ⟨h1, h2⟩ := rs_up.1 g3
   refine ⟨fun x hx => ?_, fun x hx => ?_, h2⟩
   ·rcases List.mem_cons.1 hx with rfl | hx
    ·omega
    ·have := h1 x hx; omega
   ·have := h1 x hx; omega
  ·rintro ⟨h1, h2, h3⟩
   have ha := h1 a List.mem_cons_self
   refine ⟨a.toNat, by omega, by omega, by omega, rs_up.2 ⟨fun x hx => ?_, h3⟩⟩
   have := h1 x (List.mem_cons_of_mem _ hx)
   have := h2 x hx
   omega
theorem rs_upB {below : Nat} {t : List Int} : Rs below 0 t ↔ upB 0 ((below : Int) - 1) t = true := by
 rw [up_iff, rs_up]; rfl
theorem lex_lx : ∀ {a b : List Int}, lexB a b = true → Lx a b
 | x :: a, y :: b, h => by
  unfold lexB at h
  split at h
  ·rename_i e; exact .inr ⟨e, lex_lx h⟩
  ·exact .inl (of_decide_eq_true h)
 | [], b, h => by unfold lexB at h; cases h
 | x :: a, [], h => by unfold lexB at h; cases h
theorem short_some {p : List Int → Bool} {below : Nat} {x : List Int} (h : shortestL p below = some x) : p x = true ∧ Rs below 0 x ∧ ∀ t, Rs below 0 t → p t = true → beforeB t x = false := by
 unfold shortestL at h
 obtain ⟨m, _, hm, h1, h2⟩ := firstN_some h
 rw [← drop_eq'] at h1
 obtain ⟨hp, s, e, hs, hr, hall⟩ := drop_some p below m _ _ _ h1
 rw [List.nil_append] at e
 subst e
 refine ⟨hp, hr, fun t ht hpt => ?_⟩
 unfold beforeB
 split
 ·rename_i hl
  cases hx : lexB t x with
  | false => rfl
  | true => exact absurd (lex_lx hx) (hall t (by omega) ht hpt)
 ·rename_i hl
  refine decide_eq_false fun hlt => ?_
  have := h2 t.length (Nat.zero_le _) (by omega)
  rw [← drop_eq'] at this
  exact drop_some.drop_no p below _ _ _ this t rfl ht hpt
end Go.Av.Fx
end
section
namespace Go.Av.Fx
open Go Go.Av Go.Proofs
theorem rs_pts {l : LLine} {t : List Int} : Rs (l.gives.length + 1) 0 t ↔ isPtsB l t = true := by
 rw [rs_upB, isPts_up, show (((l.gives.length + 1 : Nat) : Int) - 1) = l.gives.length by omega]
theorem plan_some {l : LLine} {off : Int} {x : List Int} (h : planL l off = some x) : tellsB l (theftsL l) x off = true ∧ isPtsB l x = true ∧ ∀ t, isPtsB l t = true → tellsB l (theftsL l) t off = true → beforeB t x = false := by
 obtain ⟨h1, h2, h3⟩ := short_some h
 exact ⟨h1, rs_pts.1 h2, fun t ht => h3 t (rs_pts.2 ht)⟩
end Go.Av.Fx
end
section
namespace Go.Av.Fx
open Go Go.Av Go.Av.Tb Go.Proofs
theorem firstN_congr {f g : Nat → Option (List Int)} : ∀ {r n : Nat}, (∀ i, n ≤ i → i < n + r → f i = g i) → firstN f n r = firstN g n r
 | 0, n, _ => rfl
 | r + 1, n, h => by
  rw [firstN_step, firstN_step, h n (Nat.le_refl _) (by omega), firstN_congr fun i h1 h2 => h i (by omega) (by omega)]
theorem drop_congr {p q : List Int → Bool} {below : Nat} : ∀ (m : Nat) (now : List Int) (fr : Nat), (∀ t, Rs below fr t → p (now ++ t) = q (now ++ t)) → dropM p below m now fr = dropM q below m now fr
 | 0, now, fr, h => by
  have := h [] trivial
  rw [List.append_nil] at this
  unfold dropM
  rw [this]
 | m + 1, now, fr, h => by
  unfold dropM
  refine firstN_congr fun i h1 h2 => drop_congr m _ _ fun t ht => ?_
  have := h ((i : Int) :: t) ⟨i, rfl, h1, by omega, ht⟩
  rw [show now ++ (i : Int) :: t = (now ++ [(i : Int)]) ++ t by simp] at this
  exact this
theorem short_congr {p q : List Int → Bool} {below : Nat} (h : ∀ t, Rs below 0 t → p t = q t) : shortestL p below = shortestL q below := by
 unfold shortestL
 refine firstN_congr fun i _ _ => ?_
 rw [← drop_eq', ← drop_eq']
 exact drop_congr i [] 0 fun t ht => h t ht
theorem plan_eq {l : LLine} (h : Lw l) {off : Int} (ho : 0 ≤ off ∧ off ≤ 20) : rPlanL l off = planL l off := by
 unfold rPlanL planL
 exact short_congr fun t ht => tells_eq h (isPts_ok (rs_pts.1 ht)) ho
theorem eq_bb (a : Bool) : binA T .eql 4 (.bool a) (.bool a) = some (.bool true) := by cases a <;> rfl
set_option maxHeartbeats 4000000 in
theorem tells_rest (l : LLine) (ok : okLine l) (pts : List Int) (hl : pts.length ≤ 8) (off : Int) (is : Bool) (e2 : Int) (he2 : askE l (inB off 0 20 && isPtsB l pts) = e2) (h1 : e2 ≠ 0 → is = false)
  (h0 : e2 = 0 → PC Tryz.prog 52 [lineA l, sl pts, .int .i64 off] (.pure (.bool is))) :
  ∀ ts : TS, (ts = [(1, sl pts), (2, .int .i64 off), (3, .ref 0 0), (7, .bool is), (8, .int .i64 e2), (50, .bool false)] ∨ ts = [(1, sl pts), (2, .int .i64 off), (3, .ref 0 0), (7, .bool is), (8, .int .i64 e2), (80, .bool false)]) →
  WC (E 115) (.seq (.seq (.draw [1, 2, 3, 7, 8, 14] 8 [] r9_12) (.seq (.region [1, 2, 3, 7, 8, 14, 91] r9_13) (.cond (.tmp 91) (.seq (.region [6] r9_14) .ret) .skip))) (.seq (.region [6] r9_15) .ret)) (bodyQ (E 115) Tryz.f9.results.toList (fun e x => e = AEnd.ret (AV.bool true))) ts ⟨[some (.cells (lineC l))], 0, []⟩ := by
 have hOff := rOff_pc off
 have hPt := rPoints_pc l pts (by show _ < _; omega)
 rw [pts_up, ← isPts_up] at hPt
 have hA := rasked_pc l ok (inB off 0 20 && isPtsB l pts)
 rw [he2] at hA
 have z00 : decide ((0 : Int) = 0) = true := rfl
 have y0 : ¬ ((0 : Int) ≠ 0) := by decide
 have zee : decide (e2 = e2) = true := decide_eq_true rfl
 have eqb := eq_bb
 intro ts hts
 rcases hts with rfl | rfl
 all_goals
  by_cases g : e2 = 0
  ·subst g
   have hR := h0 rfl
   cases ho : inB off 0 20
   ·rw [ho, Bool.false_and] at hA
    rw [ho] at hOff
    simp only [go_sem, reduceEqDiff, Nat.reduceBEq, reduceAdd, reduceIte, reduceCtorEq, reduceLeDiff]
    refine qp n44 hOff (SubL.refl _) ?_
    simp only [go_sem, reduceEqDiff, Nat.reduceBEq, reduceAdd, reduceIte, reduceCtorEq, reduceLeDiff]
    first | refine cp n23 hA (SubL.refl _) ?_ | refine qp n23 hA (SubL.refl _) ?_
    simp only [go_sem, y0, decide_false, z00, decide_true, reduceEqDiff, Nat.reduceBEq, reduceAdd, reduceIte, reduceCtorEq, reduceLeDiff]
    refine cp n52 hR (SubL.refl _) ?_
    simp only [go_sem, eqb, reduceEqDiff, Nat.reduceBEq, reduceAdd, reduceIte, reduceCtorEq, reduceLeDiff]
    refine cp n20 known_pc (SubL.refl _) ?_
    simp only [go_sem, Tryz.f9, reduceEqDiff, Nat.reduceBEq, reduceAdd, reduceIte, reduceCtorEq, reduceLeDiff]
   ·rw [ho, Bool.true_and] at hA
    rw [ho] at hOff
    simp only [go_sem, reduceEqDiff, Nat.reduceBEq, reduceAdd, reduceIte, reduceCtorEq, reduceLeDiff]
    refine qp n44 hOff (SubL.refl _) ?_
    simp only [go_sem, reduceEqDiff, Nat.reduceBEq, reduceAdd, reduceIte, reduceCtorEq, reduceLeDiff]
    refine qp n51 hPt (SubL.refl _) ?_
    simp only [go_sem, reduceEqDiff, Nat.reduceBEq, reduceAdd, reduceIte, reduceCtorEq, reduceLeDiff]
    first | refine cp n23 hA (SubL.refl _) ?_ | refine qp n23 hA (SubL.refl _) ?_
    simp only [go_sem, y0, decide_false, z00, decide_true, reduceEqDiff, Nat.reduceBEq, reduceAdd, reduceIte, reduceCtorEq, reduceLeDiff]
    refine cp n52 hR (SubL.refl _) ?_
    simp only [go_sem, eqb, reduceEqDiff, Nat.reduceBEq, reduceAdd, reduceIte, reduceCtorEq, reduceLeDiff]
    refine cp n20 known_pc (SubL.refl _) ?_
    simp only [go_sem, Tryz.f9, reduceEqDiff, Nat.reduceBEq, reduceAdd, reduceIte, reduceCtorEq, reduceLeDiff]
  ·have hi := h1 g
   subst hi
   have g' : decide (e2 ≠ 0) = true := decide_eq_true g
   cases ho : inB off 0 20
   ·rw [ho, Bool.false_and] at hA
    rw [ho] at hOff
    simp only [go_sem, reduceEqDiff, Nat.reduceBEq, reduceAdd, reduceIte, reduceCtorEq, reduceLeDiff]
    refine qp n44 hOff (SubL.refl _) ?_
    simp only [go_sem, reduceEqDiff, Nat.reduceBEq, reduceAdd, reduceIte, reduceCtorEq, reduceLeDiff]
    first | refine cp n23 hA (SubL.refl _) ?_ | refine qp n23 hA (SubL.refl _) ?_
    simp only [go_sem, g', zee, decide_true, un_not, Bool.not_false, reduceEqDiff, Nat.reduceBEq, reduceAdd, reduceIte, reduceCtorEq, reduceLeDiff]
    refine cp n20 known_pc (SubL.refl _) ?_
    simp only [go_sem, Tryz.f9, reduceEqDiff, Nat.reduceBEq, reduceAdd, reduceIte, reduceCtorEq, reduceLeDiff]
   ·rw [ho, Bool.true_and] at hA
    rw [ho] at hOff
    simp only [go_sem, reduceEqDiff, Nat.reduceBEq, reduceAdd, reduceIte, reduceCtorEq, reduceLeDiff]
    refine qp n44 hOff (SubL.refl _) ?_
    simp only [go_sem, reduceEqDiff, Nat.reduceBEq, reduceAdd, reduceIte, reduceCtorEq, reduceLeDiff]
    refine qp n51 hPt (SubL.refl _) ?_
    simp only [go_sem, reduceEqDiff, Nat.reduceBEq, reduceAdd, reduceIte, reduceCtorEq, reduceLeDiff]
    first | refine cp n23 hA (SubL.refl _) ?_ | refine qp n23 hA (SubL.refl _) ?_
    simp only [go_sem, g', zee, decide_true, un_not, Bool.not_false, reduceEqDiff, Nat.reduceBEq, reduceAdd, reduceIte, reduceCtorEq, reduceLeDiff]
    refine cp n20 known_pc (SubL.refl _) ?_
    simp only [go_sem, Tryz.f9, reduceEqDiff, Nat.reduceBEq, reduceAdd, reduceIte, reduceCtorEq, reduceLeDiff]
set_option maxHeartbeats 4000000 in
theorem LeakTells_pc (l : LLine) (ok : okLine l) (pts : List Int) (hl : okL pts.length) (off : Int) : PC Tryz.prog 9 [lineA l, sl pts, .int .i64 off] (.pure (.bool true)) := by
 refine PC.of_empty (AC.run (E_ok _) mix Tryz.func9 m9 rfl rfl rfl (Nat.le_of_ble_eq_true rfl) ?_) (by simp [bndL, AV.bnd]) rfl
 unfold okL at hl
 simp only [go_sem, boxA, reduceEqDiff, Nat.reduceBEq, reduceAdd, reduceIte, reduceCtorEq, reduceLeDiff]
 refine cp n19 (short_pc l) (SubL.refl _) ?_
 cases hsh : (decide ((l.gives.length : Int) ≤ 7) && decide ((l.counts.length : Int) ≤ 10))
 ·simp only [go_sem, un_not, Bool.not_false, reduceEqDiff, Nat.reduceBEq, reduceAdd, reduceIte, reduceCtorEq, reduceLeDiff]
  refine cp n20 known_pc (SubL.refl _) ?_
  simp only [go_sem, Tryz.f9, reduceEqDiff, Nat.reduceBEq, reduceAdd, reduceIte, reduceCtorEq, reduceLeDiff]
 by_cases g8 : (pts.length : Int) > 8
 ·simp only [go_sem, un_not, Bool.not_true, builtinA, g8, decide_true, reduceEqDiff, Nat.reduceBEq, reduceAdd, reduceIte, reduceCtorEq, reduceLeDiff]
  refine cp n20 known_pc (SubL.refl _) ?_
  simp only [go_sem, Tryz.f9, reduceEqDiff, Nat.reduceBEq, reduceAdd, reduceIte, reduceCtorEq, reduceLeDiff]
 have g9 : pts.length ≤ 8 := by omega
 simp only [go_sem, un_not, Bool.not_true, builtinA, g8, decide_false, reduceEqDiff, Nat.reduceBEq, reduceAdd, reduceIte, reduceCtorEq, reduceLeDiff]
 have hT := Tells_pc l ok pts (by omega) off
 have hP := Plan_pc l ok off
 have hA := rasked_pc l ok (inB off 0 20)
 have hOff := rOff_pc off
 obtain ⟨is, e2, eT, he2, h1, h0⟩ : ∃ (is : Bool) (e2 : Int), tellsA l pts off = .tuple [.bool is, .int .i64 e2] ∧ askE l (inB off 0 20 && isPtsB l pts) = e2 ∧ (e2 ≠ 0 → is = false) ∧ (e2 = 0 → PC Tryz.prog 52 [lineA l, sl pts, .int .i64 off] (.pure (.bool is))) := by
  have ef : fineTells l pts off = (inB off 0 20 && isPtsB l pts) := rfl
  unfold tellsA
  rw [ef]
  rcases askE_cases l (inB off 0 20 && isPtsB l pts) with ⟨he, _⟩ | ⟨he, _⟩ | ⟨he, h, ho, hp⟩
  ·rw [he, if_neg (by decide)]
   exact ⟨false, 2, rfl, rfl, fun _ => rfl, fun e => absurd e (by decide)⟩
  ·rw [he, if_neg (by decide)]
   exact ⟨false, 7, rfl, rfl, fun _ => rfl, fun e => absurd e (by decide)⟩
  ·rw [he, if_pos rfl]
   have hln := isLine_iff.1 h
   rw [Bool.and_eq_true] at ho
   have hoff := inB_iff.1 ho.1
   have hin := isPts_ok ho.2
   refine ⟨_, 0, rfl, rfl, fun e => absurd rfl e, fun _ => ?_⟩
   have := rTells_pc l hln.lw pts (by omega) hin off hoff
   rw [tells_eq hln.lw hin hoff] at this
   exact this
 rw [eT] at hT
 have tl := tells_rest l ok pts g9 off is e2 he2 h1 h0
 unfold planA at hP
 have z00 : decide ((0 : Int) = 0) = true := rfl
 have y0 : ¬ ((0 : Int) ≠ 0) := by decide
 have y5 : ¬ ((5 : Int) ≠ 5) := by decide
 refine cp n47 hT (SubL.refl _) ?_
 simp only [go_sem, extractA, reduceEqDiff, Nat.reduceBEq, reduceAdd, reduceIte, reduceCtorEq, reduceLeDiff]
 rcases askE_cases l (inB off 0 20) with ⟨he, _⟩ | ⟨he, _⟩ | ⟨he, h, ho, hp⟩
 ·rw [he] at hP hA
  rw [if_neg (by decide)] at hP
  have tl := tl _ (.inl rfl)
  have y2 : ¬ ((2 : Int) ≠ 2) := by decide
  have d2 : decide ((2 : Int) ≠ 0) = true := rfl
  refine cp n48 hP (SubL.refl _) ?_
  simp only [go_sem, extractA, reduceEqDiff, Nat.reduceBEq, reduceAdd, reduceIte, reduceCtorEq, reduceLeDiff]
  refine qp n44 hOff (SubL.refl _) ?_
  simp only [go_sem, reduceEqDiff, Nat.reduceBEq, reduceAdd, reduceIte, reduceCtorEq, reduceLeDiff]
  first | refine cp n23 hA (SubL.refl _) ?_ | refine qp n23 hA (SubL.refl _) ?_
  simp only [go_sem, d2, y2, y0, builtinA, decide_true, decide_false, reduceEqDiff, Nat.reduceBEq, reduceAdd, reduceIte, reduceCtorEq, reduceLeDiff]
  simp only [go_sem, reduceEqDiff, Nat.reduceBEq, reduceAdd, reduceIte, reduceCtorEq, reduceLeDiff] at tl
  exact tl
 ·rw [he] at hP hA
  rw [if_neg (by decide)] at hP
  have tl := tl _ (.inl rfl)
  have y2 : ¬ ((7 : Int) ≠ 7) := by decide
  have d2 : decide ((7 : Int) ≠ 0) = true := rfl
  refine cp n48 hP (SubL.refl _) ?_
  simp only [go_sem, extractA, reduceEqDiff, Nat.reduceBEq, reduceAdd, reduceIte, reduceCtorEq, reduceLeDiff]
  refine qp n44 hOff (SubL.refl _) ?_
  simp only [go_sem, reduceEqDiff, Nat.reduceBEq, reduceAdd, reduceIte, reduceCtorEq, reduceLeDiff]
  first | refine cp n23 hA (SubL.refl _) ?_ | refine qp n23 hA (SubL.refl _) ?_
  simp only [go_sem, d2, y2, y0, builtinA, decide_true, decide_false, reduceEqDiff, Nat.reduceBEq, reduceAdd, reduceIte, reduceCtorEq, reduceLeDiff]
  simp only [go_sem, reduceEqDiff, Nat.reduceBEq, reduceAdd, reduceIte, reduceCtorEq, reduceLeDiff] at tl
  exact tl
 ·rw [he] at hP hA
  rw [if_pos rfl] at hP
  have tl := tl _ (.inr rfl)
  have hln := isLine_iff.1 h
  have hoff := inB_iff.1 ho
  have hR := rPlan_pc l hln.lw off hoff
  unfold rPlanA at hR
  rw [plan_eq hln.lw hoff] at hR
  cases hq : planL l off with
  | none =>
   rw [hq] at hP hR
   simp only [Option.isSome_none] at hR
   refine cp n48 hP (SubL.refl _) ?_
   simp only [go_sem, extractA, reduceEqDiff, Nat.reduceBEq, reduceAdd, reduceIte, reduceCtorEq, reduceLeDiff]
   refine qp n44 hOff (SubL.refl _) ?_
   simp only [go_sem, reduceEqDiff, Nat.reduceBEq, reduceAdd, reduceIte, reduceCtorEq, reduceLeDiff]
   first | refine cp n23 hA (SubL.refl _) ?_ | refine qp n23 hA (SubL.refl _) ?_
   simp only [go_sem, y0, decide_false, reduceEqDiff, Nat.reduceBEq, reduceAdd, reduceIte, reduceCtorEq, reduceLeDiff]
   refine cp n49 hR (SubL.refl _) ?_
   simp only [go_sem, extractA, un_not, Bool.not_false, y5, y0, builtinA, decide_false, reduceEqDiff, Nat.reduceBEq, reduceAdd, reduceIte, reduceCtorEq, reduceLeDiff]
   simp only [go_sem, reduceEqDiff, Nat.reduceBEq, reduceAdd, reduceIte, reduceCtorEq, reduceLeDiff] at tl
   exact tl
  | some r =>
   rw [hq] at hP hR
   simp only [Option.isSome_some, Option.getD_some] at hR
   have hrl : r.length ≤ 1000 := by
    have hp := hln.pts
    have := (plan_some hq).2.1
    rcases rs_len (rs_pts.2 this) with hh | hh
    ·omega
    ·rw [hh]; exact Nat.zero_le _
   have hS := Same_pc r r (by show _ < _; omega) (by show _ < _; omega)
   rw [decide_eq_true rfl] at hS
   refine cp n48 hP (SubL.refl _) ?_
   simp only [go_sem, extractA, reduceEqDiff, Nat.reduceBEq, reduceAdd, reduceIte, reduceCtorEq, reduceLeDiff]
   refine qp n44 hOff (SubL.refl _) ?_
   simp only [go_sem, reduceEqDiff, Nat.reduceBEq, reduceAdd, reduceIte, reduceCtorEq, reduceLeDiff]
   first | refine cp n23 hA (SubL.refl _) ?_ | refine qp n23 hA (SubL.refl _) ?_
   simp only [go_sem, y0, decide_false, reduceEqDiff, Nat.reduceBEq, reduceAdd, reduceIte, reduceCtorEq, reduceLeDiff]
   refine cp n49 hR (SubL.refl _) ?_
   simp only [go_sem, extractA, un_not, Bool.not_true, y0, builtinA, decide_false, reduceEqDiff, Nat.reduceBEq, reduceAdd, reduceIte, reduceCtorEq, reduceLeDiff]
   refine cp n50 hS (SubL.refl _) ?_
   simp only [go_sem, un_not, Bool.not_true, reduceEqDiff, Nat.reduceBEq, reduceAdd, reduceIte, reduceCtorEq, reduceLeDiff]
   simp only [go_sem, reduceEqDiff, Nat.reduceBEq, reduceAdd, reduceIte, reduceCtorEq, reduceLeDiff] at tl
   exact tl
end Go.Av.Fx
end
section
set_option maxRecDepth 100000
namespace Go.Av.Fx
open Go Go.Av Go.Av.Tb Go.Proofs Go.ChangeShapes Go.WideShapes Go.RowKit
def cW (W : World) : Cx :=
 {K := fun b o => W.cell? ⟨b, o, none⟩, μ := fun _ => none, τ := fun _ => none, X := fun _ _ => none
  XO := fun b => match W.heap[b]? with
   | some (.cells _ _ _) => none
   | o => o
  sz := W.heap.size, FZ := ⟨fun _ _ => false, W⟩ }
structure TabOk (W : World) : Prop where
 tab : ∀ i, i < 20 → W.cell? ⟨tabB, i, none⟩ = some (tabV i)
 tsh : ∃ t, W.shape? tabB = some (t, 20)
theorem cW_st {W : World} (h : TabOk W) : StRel (cW W) St.empty W where
 sz := Nat.le_refl _
 tab := h.tab
 tsh := h.tsh
 fr := Frm.refl W
 K := fun _ _ _ e => e
 X := fun _ _ _ e => by cases e
 XO := fun b ob e => by
  simp only [cW] at e
  split at e
  ·cases e
  ·rename_i hn
   exact ⟨e, fun cs t f he => hn cs t f (by rw [e, he])⟩
 F := fun _ _ e => by cases e
 dom := fun _ _ e => by cases e
 tdom := fun _ _ e => by cases e
 blk := fun i B e => by simp [St.empty] at e
 inj := fun i j Bi Bj n e => by simp [St.empty] at e
 tok := fun k hk => by cases hk
 tinj := fun k k' b lo hi lo' hi' hk => by cases hk
 tblk := fun k i b lo hi B hk => by cases hk
structure Keep (W W' : World) : Prop where
 os : W'.os = W.os
 out : W'.output = W.output
 block : ∀ k, k < W.heap.size → W'.heap[k]? = W.heap[k]?
theorem keep_of {W W' : World} {c' : Cx} {S' : St} (hle : (cW W).le c') (h : StRel c' S' W') : Keep W W' := by
 have hfr : Frm W W' := by have := h.fr; rw [hle.FZ] at this; exact this
 refine ⟨hfr.os, hfr.out, fun k hk => ?_⟩
 have hob : W.heap[k]? = some W.heap[k] := Array.getElem?_eq_getElem hk
 rw [hob]
 cases ho : W.heap[k] with
 | cells cs t fr =>
  rw [ho] at hob
  obtain ⟨cs', e1, e2⟩ := hfr.blk k cs t fr hob
  rw [e1]
  congr 2
  apply Array.ext
  ·exact e2
  ·intro j h1 h2
   have hc : W.cell? ⟨k, j, none⟩ = some cs[j] := by
    unfold World.cell?
    simp [hob, h2]
   have := h.K k j _ (hle.K k j _ hc)
   unfold World.cell? at this
   simp [e1, h1] at this
   exact this
 | _ =>
  rw [ho] at hob
  exact (h.XO k _ (by rw [hle.XO]; simp only [cW, hob])).1
theorem Keep.keptBut {W W' : World} (h : Keep W W') (may : MemPlace → Prop) : W.keptBut W' may := by
 refine ⟨h.os, h.out, fun i hi => ?_⟩
 rw [h.block i hi, Array.getElem?_eq_getElem hi]
 cases W.heap[i] with
 | cells c t fr => exact ⟨rfl, rfl, rfl, fun _ _ => rfl⟩
 | map es clock => exact .inr ⟨rfl, rfl⟩
 | _ => rfl
theorem Keep.same {W W' : World} (h : Keep W W') {p : MemPlace} (hp : p.block < W.heap.size) : W.sameAt W' p := by
 cases p with
 | cell b o => exact World.cell?_of_block (w := W) (h.block b hp)
 | map b => exact h.block b hp
theorem Keep.trod {H : Type} {enc : TypeId × Value → H} {P : Program} {t : TypeId} (hl : laidOutB P = true) (hr : P.readableRec t = true) (hrow : t < P.types.size) {W W' : World} {v : Value} {d : DataW H} {ps : List MemPlace}
  (h : DataW.Trod enc P W 0 (fun _ => true) true t v d ps) (hb : Keep W W') (hlt : ∀ x ∈ ps, x.block < W.heap.size) :
  DataW.Trod enc P W' 0 (fun b => decide (b < W.heap.size)) true t v d ps :=
 WideElems.Trod_stays hl hr hrow h (fun x hx => hb.same (hlt x hx)) (fun x hx => by simpa using hlt x hx)
theorem law_calls {f : FuncId} {args : List AV} {W : World} {vs : List Value} (h : PC Tryz.prog f args (.pure (.bool true))) (ht : TabOk W) (hl : LRel (cW W) args vs) :
  Calls Tryz.prog f vs.toArray W fun e W' => e = .returned (.bool true) ∧ Keep W W' := by
 refine (h (cW W) St.empty W vs (cW_st ht) hl).mono ?_
 rintro e W' ⟨x, rfl, c', hle, _, _, hst, hv⟩
 refine ⟨?_, keep_of hle hst⟩
 cases hv; rfl
theorem cells_of {W : World} {b off : Nat} {l : List AV} {n cap : Nat} (hc : n ≤ cap) (h : ∀ j x, l[j]? = some x → ∃ v, W.cell? ⟨b, off + j, none⟩ = some v ∧ VRel (cW W) x v) : VRel (cW W) (.slice l n .unk) (.slice (some ⟨b, off, none⟩) n cap) := by
 have get : ∀ j (hj : j < l.length), ∃ v, W.cell? ⟨b, off + j, none⟩ = some v ∧ VRel (cW W) l[j] v := fun j hj => h j _ (List.getElem?_eq_getElem hj)
 refine .slice l n .unk b off cap (fun j => (W.cell? ⟨b, off + j, none⟩).getD default) hc (fun j hj => ?_) (fun j x hx => ?_) (fun e => by cases e) (fun k e => by cases e)
 ·obtain ⟨v, h1, h2⟩ := get j hj
  show W.cell? _ = some ((W.cell? _).getD default)
  rw [h1]; rfl
 ·obtain ⟨v, h1, h2⟩ := h j x hx
  rw [h1]; exact h2
theorem add_at (b off i : Nat) : (⟨b, off, none⟩ : Addr).add i = ⟨b, off + i, none⟩ := add_plain b off i
theorem has_spot {W : World} {base : Nat} {t e : TypeId} {a : Addr} {len cap : Nat} (ht : Tryz.prog.underlying t = some (.slice e)) (h : Cell.okWide Tryz.prog W .any base t (.slice (some a) len cap)) : a.spot = none := by
 simp only [Cell.okWide, ht, Cell.ok] at h
 exact h.2.2.2.1
section
variable {H : Type} {enc : TypeId × Value → H} {W : World} {base : Nat} {fuel : Nat} {x : DataW H × List MemPlace}
theorem av_ints {v : Value} (h : DataW.trod enc Tryz.prog W 0 (fun _ => true) true fuel 22 [v] = some x) (hw : ∀ n ∈ x.1.weights Tryz.prog 22, n ≤ reachBytes) (hok : Cell.okWide Tryz.prog W .any base 22 v) : ∃ l : List Int, VRel (cW W) (sl l) v ∧ okL l.length := by
 rcases open_ints Tryz.underlying22 Tryz.underlying3 (by kernel_rfl) h with ⟨hcs, _⟩ | ⟨a, len, cap, zs, hcs, _, hl, hm, hz, hx, hcell, _⟩
 ·cases hcs
  exact ⟨[], .sliceNil .unk (fun k e => by cases e), Nat.zero_lt_succ _⟩
 ·cases hcs
  have hsp := has_spot Tryz.underlying22 hok
  obtain ⟨b, off, spot⟩ := a
  simp only at hsp
  subst hsp
  have hz : zs.length = cap := by simpa using hz
  have hlen : (zs.take len).length = len := by rw [List.length_take]; omega
  have hsize : len < 9223372036854775807 := by
   subst hx
   have h8 : Tryz.prog.bytesOf 3 = 8 := by kernel_rfl
   have := hw (((lits .i64 (zs.take len) : List (DataW H)).length + (lits .i64 (zs.drop len) : List (DataW H)).length) * 8) (by
    simp only [DataW.weights, Tryz.underlying22, h8]
    exact List.mem_cons_self)
   have e1 : (lits .i64 (zs.take len) : List (DataW H)).length = len := by simp [lits]; omega
   rw [e1] at this
   unfold reachBytes at this
   omega
  refine ⟨zs.take len, ?_, by rw [hlen]; exact hsize⟩
  show VRel (cW W) (.slice (ints (zs.take len)) (zs.take len).length .unk) _
  rw [hlen]
  refine cells_of hl fun j y hy => ?_
  rw [ints_get] at hy
  have hj : j < (zs.take len).length := by
   rcases Nat.lt_or_ge j (zs.take len).length with h' | h'
   ·exact h'
   ·rw [List.getElem?_eq_none h'] at hy; cases hy
  rw [List.getElem?_eq_getElem hj] at hy
  cases hy
  have hj2 : j < zs.length := by omega
  have hc := hcell j hj2
  rw [add_at] at hc
  refine ⟨_, hc, ?_⟩
  rw [List.getElem_take, List.getD_eq_getElem?_getD, List.getElem?_eq_getElem hj2]
  exact .int _ _
theorem av_int {v : Value} (h : DataW.trod enc Tryz.prog W 0 (fun _ => true) true fuel 3 [v] = some x) : ∃ n : Int, v = .int .i64 n ∧ (Lit.int .i64 n).wf = true := by
 obtain ⟨n, hcs, _, hw⟩ := DataW.trod_int Tryz.underlying3 h
 cases hcs
 exact ⟨n, rfl, hw⟩
theorem av_cnt {cs : List Value} (h : DataW.trod enc Tryz.prog W 0 (fun _ => true) true fuel 82 cs = some x) : ∃ c : Cnt, cs = [.int .i64 c.point, .int .i64 c.low, .int .i64 c.high] := by
 obtain ⟨xs, n, _, _, hl, hlen, hf⟩ := DataW.trod_struct Tryz.underlying82 h
 have hc : Tryz.prog.cellsOf 82 = 3 := by kernel_rfl
 have hc3 : Tryz.prog.cellsOf 3 = 1 := by kernel_rfl
 rw [hc] at hl
 match cs, hl with
 | [a, b, d], _ =>
  match xs, hlen with
  | [y0, y1, y2], _ =>
   have h0 : DataW.trod enc Tryz.prog W 0 (fun _ => true) true n 3 (([a, b, d].drop 0).take (Tryz.prog.cellsOf 3)) = some y0 := hf 0 _ rfl
   have h1 : DataW.trod enc Tryz.prog W 0 (fun _ => true) true n 3 (([a, b, d].drop 1).take (Tryz.prog.cellsOf 3)) = some y1 := hf 1 _ rfl
   have h2 : DataW.trod enc Tryz.prog W 0 (fun _ => true) true n 3 (([a, b, d].drop 2).take (Tryz.prog.cellsOf 3)) = some y2 := hf 2 _ rfl
   rw [hc3] at h0 h1 h2
   obtain ⟨p, rfl, _⟩ := av_int h0
   obtain ⟨q, rfl, _⟩ := av_int h1
   obtain ⟨r, rfl, _⟩ := av_int h2
   exact ⟨⟨p, q, r⟩, rfl⟩
theorem cnts_get : ∀ (l : List Cnt) (j : Nat) (y : AV), (cnts l)[j]? = some y → ∃ (i q : Nat) (hi : i < l.length), j = i * 3 + q ∧ q < 3 ∧ (cntC l[i])[q]? = some y
 | [], j, y, h => by simp [cnts] at h
 | c :: l, j, y, h => by
  have e : cnts (c :: l) = cntC c ++ cnts l := by simp [cnts]
  rw [e] at h
  by_cases hj : j < 3
  ·rw [List.getElem?_append_left (by simpa using hj)] at h
   exact ⟨0, j, by simp, by omega, hj, h⟩
  ·rw [List.getElem?_append_right (by simp; omega)] at h
   obtain ⟨i, q, hi, e1, e2, e3⟩ := cnts_get l _ y h
   refine ⟨i + 1, q, by simpa using hi, ?_, e2, e3⟩
   simp at e1; omega
theorem av_cnts {v : Value} (h : DataW.trod enc Tryz.prog W 0 (fun _ => true) true fuel 23 [v] = some x) (hw : ∀ n ∈ x.1.weights Tryz.prog 23, n ≤ reachBytes) (hok : Cell.okWide Tryz.prog W .any base 23 v) : ∃ l : List Cnt, VRel (cW W) (.slice (cnts l) l.length .unk) v ∧ okL l.length := by
 rcases Go.Deep.open_slice Tryz.underlying23 h with ⟨hcs, _⟩ | ⟨a, len, cap, m, n, D, Pl, hcs, _, hl, hm, hmm, hxx, hx⟩
 ·cases hcs
  exact ⟨[], .sliceNil .unk (fun k e => by cases e), Nat.zero_lt_succ _⟩
 ·cases hcs
  have hsp := has_spot Tryz.underlying23 hok
  obtain ⟨b, off, spot⟩ := a
  simp only at hsp
  subst hsp
  have hmc : m = cap := by simpa using hmm
  have hc : Tryz.prog.cellsOf 82 = 3 := by kernel_rfl
  rw [hc] at hx
  have each : ∀ i, i < len → ∃ c : Cnt, ∀ (q : Nat) (y : AV), (cntC c)[q]? = some y → ∃ u, W.cell? ⟨b, off + (i * 3 + q), none⟩ = some u ∧ VRel (cW W) y u := by
   intro i hi
   obtain ⟨cs', h1, h2⟩ := hx i (by omega)
   obtain ⟨c, rfl⟩ := av_cnt h2
   obtain ⟨_, _, hcell⟩ := World.cells?_some h1
   refine ⟨c, fun q y hy => ?_⟩
   have hq : q < 3 := by
    rcases Nat.lt_or_ge q 3 with h' | h'
    ·exact h'
    ·rw [List.getElem?_eq_none (by simpa using h')] at hy; cases hy
   have hcq := hcell q (by simpa using hq)
   rw [add_at, add_at, Nat.add_assoc] at hcq
   match q, hq, hy with
   | 0, _, hy => cases hy; exact ⟨_, hcq, .int _ _⟩
   | 1, _, hy => cases hy; exact ⟨_, hcq, .int _ _⟩
   | 2, _, hy => cases hy; exact ⟨_, hcq, .int _ _⟩
  obtain ⟨F, hF⟩ : ∃ F : Nat → Cnt, ∀ i, i < len → ∀ (q : Nat) (y : AV), (cntC (F i))[q]? = some y → ∃ u, W.cell? ⟨b, off + (i * 3 + q), none⟩ = some u ∧ VRel (cW W) y u :=
   ⟨fun i => if hi : i < len then (each i hi).choose else ⟨0, 0, 0⟩, fun i hi => by
    show ∀ (q : Nat) (y : AV), (cntC (if hi : i < len then (each i hi).choose else ⟨0, 0, 0⟩))[q]? = some y → _
    rw [dif_pos hi]; exact (each i hi).choose_spec⟩
  have hlen : ((List.range len).map F).length = len := by simp
  have hsize : len < 9223372036854775807 := by
   subst hxx
   have h8 : Tryz.prog.bytesOf 82 = 24 := by kernel_rfl
   have := hw ((((List.range len).map D).length + ((List.range (m - len)).map fun j => D (len + j)).length) * 24) (by
    simp only [DataW.weights, Tryz.underlying23, h8]
    exact List.mem_cons_self)
   rw [List.length_map, List.length_range] at this
   unfold reachBytes at this
   omega
  refine ⟨(List.range len).map F, ?_, by rw [hlen]; exact hsize⟩
  rw [hlen]
  refine cells_of hl fun j y hy => ?_
  obtain ⟨i, q, hi, rfl, _, e3⟩ := cnts_get _ j y hy
  rw [hlen] at hi
  have e4 : ((List.range len).map F)[i] = F i := by simp
  rw [e4] at e3
  exact hF i hi q y e3
end
theorem av_line {H : Type} {enc : TypeId × Value → H} {W : World} {base : Nat} {v : Value} {d : DataW H} {ps : List MemPlace} (h : DataW.Trod enc Tryz.prog W 0 (fun _ => true) true 25 v d ps) (hw : ∀ n ∈ d.weights Tryz.prog 25, n ≤ reachBytes) (hok : Value.okWide Tryz.prog W .any base 25 v) :
  ∃ l : LLine, VRel (cW W) (lineA l) v ∧ okLine l := by
 obtain ⟨fuel, h⟩ := h
 simp only [Value.okWide, Tryz.underlying25] at hok
 obtain ⟨cs, rfl, hsz, ts, hts, _, hrow⟩ := hok
 have hc : Tryz.prog.cellsOf 25 = 5 := by kernel_rfl
 rw [hc] at hsz
 obtain ⟨c0, c1, c2, c3, c4, rfl⟩ : ∃ c0 c1 c2 c3 c4, cs = #[c0, c1, c2, c3, c4] := by
  obtain ⟨l⟩ := cs
  match l, hsz with
  | [c0, c1, c2, c3, c4], _ => exact ⟨c0, c1, c2, c3, c4, rfl⟩
 have hts' : Go.Program.cellTypes Tryz.prog Tryz.prog.depth 25 = some [22, 3, 3, 3, 23] := by kernel_rfl
 rw [hts'] at hts
 cases hts
 have k0 : Cell.okWide Tryz.prog W .any base 22 c0 := by
  obtain ⟨u, e, hu⟩ := hrow 0 c0 rfl
  cases e; exact hu
 have k4 : Cell.okWide Tryz.prog W .any base 23 c4 := by
  obtain ⟨u, e, hu⟩ := hrow 4 c4 rfl
  cases e; exact hu
 obtain ⟨xs, n, _, hd, hl, hlen, hf⟩ := DataW.trod_struct Tryz.underlying25 h
 have hc3 : Tryz.prog.cellsOf 3 = 1 := by kernel_rfl
 have hc22 : Tryz.prog.cellsOf 22 = 1 := by kernel_rfl
 have hc23 : Tryz.prog.cellsOf 23 = 1 := by kernel_rfl
 match xs, hlen with
 | [y0, y1, y2, y3, y4], _ =>
  have h0 : DataW.trod enc Tryz.prog W 0 (fun _ => true) true n 22 (([c0, c1, c2, c3, c4].drop 0).take (Tryz.prog.cellsOf 22)) = some y0 := hf 0 _ rfl
  have h1 : DataW.trod enc Tryz.prog W 0 (fun _ => true) true n 3 (([c0, c1, c2, c3, c4].drop 1).take (Tryz.prog.cellsOf 3)) = some y1 := hf 1 _ rfl
  have h2 : DataW.trod enc Tryz.prog W 0 (fun _ => true) true n 3 (([c0, c1, c2, c3, c4].drop 2).take (Tryz.prog.cellsOf 3)) = some y2 := hf 2 _ rfl
  have h3 : DataW.trod enc Tryz.prog W 0 (fun _ => true) true n 3 (([c0, c1, c2, c3, c4].drop 3).take (Tryz.prog.cellsOf 3)) = some y3 := hf 3 _ rfl
  have h4 : DataW.trod enc Tryz.prog W 0 (fun _ => true) true n 23 (([c0, c1, c2, c3, c4].drop 4).take (Tryz.prog.cellsOf 23)) = some y4 := hf 4 _ rfl
  rw [hc3] at h1 h2 h3
  rw [hc22] at h0
  rw [hc23] at h4
  cases hd
  have hw' : ∀ (j : Nat) (t : TypeId) (d : DataW H), [22, 3, 3, 3, 23][j]? = some t → [y0.1, y1.1, y2.1, y3.1, y4.1][j]? = some d → ∀ n ∈ d.weights Tryz.prog t, n ≤ reachBytes := fun j t d ht hd n hn => by
   refine hw n ?_
   simp only [DataW.weights, Tryz.underlying25]
   exact DataW.weights_mem_each (ts := [22, 3, 3, 3, 23]) ht hd n hn
  obtain ⟨g, hg, og⟩ := av_ints h0 (hw' 0 _ _ rfl rfl) k0
  obtain ⟨p, rfl, _⟩ := av_int h1
  obtain ⟨q, rfl, _⟩ := av_int h2
  obtain ⟨r, rfl, _⟩ := av_int h3
  obtain ⟨cn, hcn, oc⟩ := av_cnts h4 (hw' 4 _ _ rfl rfl) k4
  refine ⟨⟨g, p, q, r, cn⟩, VRel.mk_agg ?_, og, oc⟩
  exact LRel.cons hg (LRel.cons (.int _ _) (LRel.cons (.int _ _) (LRel.cons (.int _ _) (LRel.cons hcn (LRel.nil _)))))
end Go.Av.Fx
end
section
namespace Go.Proofs.YtlagjjpbknpdkaaGreatDoor
open Go Go.Av Go.ChangeShapes Go.WideShapes Go.ChangeAt Go.RowKit
set_option maxRecDepth 100000
theorem own : ownKnob Tryz.prog.godebug = none := by kernel_rfl
theorem laidOut : laidOutB Tryz.prog = true := by kernel_rfl
def tabs : List (String × DataW Unit) := [("math/bits.deBruijn32tab", Rows.laid_math_bits_deBruijn32tab), ("math/bits.deBruijn64tab", Rows.laid_math_bits_deBruijn64tab), ("internal/strconv.uint64pow10", Rows.laid_internal_strconv_uint64pow10), ("unicode/utf8.acceptRanges", Rows.laid_unicode_utf8_acceptRanges), ("unicode/utf8.first", Rows.laid_unicode_utf8_first)]
theorem pow_data : (Rows.laid_internal_strconv_uint64pow10 : DataW Unit) = Lib.tabData .u64 Lib.pow10Tab := by kernel_rfl
theorem pow_name : Tryz.prog.globalNamed "internal/strconv.uint64pow10" = some 0 := by kernel_rfl
theorem pow_type : (Tryz.prog.globals[0]?).map (·.type) = some 232 := by kernel_rfl
theorem tab_ok {W : World} (h : laidMetH Tryz.prog tabs W) : Go.Av.Fx.TabOk W := by
 rw [MakeChecks.laidMetH_plain _ _ _ (by kernel_rfl)] at h
 obtain ⟨ps, ⟨_, _, _, _, _, _, _, _, _, _, ⟨_, _, _, _, _, _, _, _, _, _, ⟨g, t, cs, fuel, p, q, hg, ht, hv, hd, _, _⟩, _⟩, _⟩, _, _⟩ := h
 obtain rfl := Option.some.inj (pow_name.symm.trans hg)
 obtain rfl := Option.some.inj (pow_type.symm.trans ht)
 rw [pow_data] at hd
 have hcs := Lib.cells_of_tab (P := Tryz.prog) (t := 232) (e := 215) (n := 20) (k := .u64) (by kernel_rfl) (by kernel_rfl) (by kernel_rfl) (by kernel_rfl) hd
 have hlen : Lib.pow10Tab.length = 20 := by simp [Lib.pow10Tab]
 have hTab : Lib.TabIs Tryz.prog W "internal/strconv.uint64pow10" .u64 Lib.pow10Tab := by
  unfold Lib.TabIs
  rw [hv, ← hcs]
 refine ⟨fun i hi => ?_, ?_⟩
 ·have := hTab.cell pow_name i (by rw [hlen]; exact hi)
  rw [show (Lib.pow10Tab.getD i 0 : Int) = ((10 ^ i : Nat) : Int) by
   unfold Lib.pow10Tab
   rw [List.getD_eq_getElem?_getD, List.getElem?_map, List.getElem?_range hi]; rfl] at this
  exact this
 ·unfold World.var? at hv
  rw [pow_name, Option.bind_some] at hv
  split at hv
  ·rename_i cs' t' fr e
   cases hv
   refine ⟨t', ?_⟩
   unfold World.shape?
   show (match W.heap[0]? with
    | some (.cells c elem _) => some (elem, c.size)
    | _ => none) = _
   rw [e]
   have : cs.size = 20 := by
    have := congrArg List.length hcs
    simpa [hlen] using this
   simp [this]
  ·cases hv
end Go.Proofs.YtlagjjpbknpdkaaGreatDoor
end
section
set_option maxRecDepth 100000
namespace Go.Av.Fx
open Go Go.Av Go.Av.Tb Go.Proofs Go.ChangeShapes Go.WideShapes Go.RowKit
theorem cells_lone {v : Value} (h : ∀ cs, v ≠ .agg cs) : v.cells.toList = [v] := by
 cases v <;> first | rfl | exact absurd rfl (h _)
theorem av_intsA {H : Type} {enc : TypeId × Value → H} {W : World} {base : Nat} {v : Value} {d : DataW H} {ps : List MemPlace} (h : DataW.Trod enc Tryz.prog W 0 (fun _ => true) true 22 v d ps) (hw : ∀ n ∈ d.weights Tryz.prog 22, n ≤ reachBytes) (hok : Value.okWide Tryz.prog W .any base 22 v) :
  ∃ l : List Int, VRel (cW W) (sl l) v ∧ okL l.length := by
 obtain ⟨fuel, h⟩ := h
 simp only [Value.okWide, Tryz.underlying22] at hok
 rw [cells_lone (fun cs e => by subst e; simp [Tryz.underlying22, Cell.okWide, Cell.ok] at hok)] at h
 exact av_ints h hw hok
end Go.Av.Fx
end
