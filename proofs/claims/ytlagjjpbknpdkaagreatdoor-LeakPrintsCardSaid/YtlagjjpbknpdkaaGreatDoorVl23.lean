/- Part 23 of the proof. -/
import Derived.Test.YtlagjjpbknpdkaaGreatDoorVl22
set_option linter.all false
set_option linter.unusedVariables false
set_option linter.unusedSimpArgs false
set_option linter.unusedSectionVars false
open Nat (reduceEqDiff reduceAdd reduceLeDiff)
section
namespace Go.Av.Fx
open Go Go.Av Go.Proofs
theorem num_size {n : Int} (h : 0 ≤ n ∧ n ≤ 400) : (itoaB n).size ≤ 3 := by
 have := (num_ok ⟨h.1, by omega⟩).1
 unfold okW at this
 simp only [Bool.and_eq_true, decide_eq_true_iff] at this
 exact this.1.1.1
theorem app_size (a b : ByteArray) : (a ++ b).size = a.size + b.size := by simp
theorem row_size : ∀ (ns : List Int) (o : ByteArray), (∀ n ∈ ns, 0 ≤ n ∧ n ≤ 400) → (rowN o ns).size ≤ o.size + 4 * ns.length
 | [], o, _ => Nat.le_refl _
 | n :: ns, o, h => by
  have ih := row_size ns (o ++ (sp ++ itoaB n)) fun x hx => h x (List.mem_cons_of_mem _ hx)
  have h1 := num_size (h n List.mem_cons_self)
  have h2 : sp.size = 1 := rfl
  rw [app_size, app_size] at ih
  show (rowN (o ++ (sp ++ itoaB n)) ns).size ≤ _
  rw [List.length_cons]; omega
theorem cat_size {b : Nat} : ∀ R : List ByteArray, (∀ r ∈ R, r.size ≤ b) → (catL R).size ≤ (b + 1) * R.length
 | [], _ => Nat.zero_le _
 | r :: R, h => by
  have ih := cat_size R fun x hx => h x (List.mem_cons_of_mem _ hx)
  have h1 := h r List.mem_cons_self
  have h2 : lf.size = 1 := rfl
  show (r ++ (lf ++ catL R)).size ≤ _
  rw [app_size, app_size, List.length_cons, Nat.mul_add]; omega
theorem rows_ln {l : LLine} (h : Ln l) : ∀ r ∈ rowsL l, r.size ≤ 17 := by
 have h1 := h.least; have h2 := h.most; have h3 := h.taps
 intro r hr
 unfold rowsL at hr
 rcases List.mem_cons.1 hr with rfl | hr
 ·have := row_size [l.least, l.most, l.taps] (wordB 0) (fun n hn => by simp at hn; omega)
  have hw : (wordB 0).size = 4 := rfl
  have hl : [l.least, l.most, l.taps].length = 3 := rfl
  unfold rowB; omega
 ·rcases List.mem_append.1 hr with hr | hr
  ·obtain ⟨n, hn, rfl⟩ := List.mem_map.1 hr
   have := h.gives n hn
   have := row_size [n] (wordB 1) (fun x hx => by simp at hx; omega)
   have hw : (wordB 1).size = 7 := rfl
   have hl : [n].length = 1 := rfl
   unfold rowB; omega
  ·obtain ⟨c, hcc, rfl⟩ := List.mem_map.1 hr
   have := h.counts c hcc
   have hp := h.pts
   have := row_size [c.point, c.low, c.high] (wordB 2) (fun x hx => by simp at hx; omega)
   have hw : (wordB 2).size = 5 := rfl
   have hl : [c.point, c.low, c.high].length = 3 := rfl
   unfold rowB; omega
theorem ck_ln {l : LLine} (h : Ln l) : 0 ≤ ckL l ∧ ckL l < 157 := by
 have hp := h.pts; have hc := h.cts
 have hl : (rowsL l).length ≤ 3000 := by simp [rowsL]; omega
 have hb := ck_bd (fun r hr => Nat.le_trans (rows_ln h r hr) (by decide)) (rowsL l).length hl
 unfold ckL
 rw [Int.tmod_eq_emod_of_nonneg hb.1]
 omega
theorem end_size {c : Int} (h : 0 ≤ c ∧ c < 157) : (endB c).size ≤ 13 := by
 have e1 : c.tdiv 100 = c / 100 := Int.tdiv_eq_ediv_of_nonneg h.1
 have e2 : c.tdiv 10 = c / 10 := Int.tdiv_eq_ediv_of_nonneg h.1
 have e3 : (c / 10).tmod 10 = (c / 10) % 10 := Int.tmod_eq_emod_of_nonneg (by omega)
 have e4 : c.tmod 10 = c % 10 := Int.tmod_eq_emod_of_nonneg h.1
 unfold endB
 rw [e1, e2, e3, e4, app_size, app_size, app_size]
 have a := num_size (n := c / 100) (by omega)
 have b := num_size (n := (c / 10) % 10) (by omega)
 have d := num_size (n := c % 10) (by omega)
 have hw : endW.size = 4 := rfl
 omega
theorem text_size {l : LLine} (h : Ln l) : (textB l).size ≤ 300 := by
 have hp := h.pts; have hc := h.cts
 rw [text_cat]
 have := cat_size (b := 17) (rowsL l ++ [endB (ckL l)]) (fun r hr => by
  rcases List.mem_append.1 hr with hr | hr
  ·exact rows_ln h r hr
  ·simp at hr; subst hr
   exact Nat.le_trans (end_size (ck_ln h)) (by decide))
 have hl : (rowsL l ++ [endB (ckL l)]).length = l.gives.length + l.counts.length + 2 := by simp [rowsL]; omega
 rw [hl] at this
 omega
theorem read_text {l : LLine} (h : Ln l) : readA (textB l) = .tuple [lineA l, .int .i64 0] := by
 have hk := ck_ln h
 unfold readA
 rw [if_pos (text_size h), parsed_text h (by omega)]
 show (if isLineB l = true then _ else _) = _
 rw [if_pos (isLine_iff.2 h)]
end Go.Av.Fx
end
