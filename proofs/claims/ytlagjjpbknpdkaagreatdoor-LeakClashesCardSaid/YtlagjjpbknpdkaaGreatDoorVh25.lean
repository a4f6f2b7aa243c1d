/- Part 25 of the proof. -/
import Derived.Test.YtlagjjpbknpdkaaGreatDoorVh24
set_option linter.all false
set_option linter.unusedVariables false
set_option linter.unusedSimpArgs false
set_option linter.unusedSectionVars false
open Nat (reduceEqDiff reduceAdd reduceLeDiff)
section
namespace Go.Av.Fx
open Go Go.Av Go.Av.Tb Go.Proofs
theorem join_snoc (sep x : List UInt8) : ∀ (R : List (List UInt8)) (a : List UInt8), a ++ Lib.joinTail sep (R ++ [x]) = ((a :: R).map (· ++ sep)).flatten ++ x
 | [], a => by simp [Lib.joinTail]
 | b :: R, a => by
  have ih := join_snoc sep x R b
  have e : Lib.joinTail sep (b :: R ++ [x]) = sep ++ (b ++ Lib.joinTail sep (R ++ [x])) := by simp [Lib.joinTail]
  rw [e, ih]
  simp
theorem catB_list (R : List ByteArray) : ∀ k, k ≤ R.length → (catB R k).data.toList = ((R.take k).map fun r => r.data.toList ++ lf.data.toList).flatten
 | 0, _ => rfl
 | k + 1, h => by
  have ih := catB_list R k (by omega)
  have h' : k < R.length := by omega
  rw [List.take_succ_eq_append_getElem h', List.map_append, List.flatten_append, ← ih]
  show (catB R k ++ R.getD k ByteArray.empty ++ lf).data.toList = _
  rw [app_list, app_list, getD_at _ h']
  simp
theorem join_cat (R : List ByteArray) (x : ByteArray) : joinB (R ++ [x]) lf ++ lf = catB R R.length ++ x ++ lf := by
 apply ba_ext
 rw [app_list, app_list, app_list, catB_list R R.length (Nat.le_refl _), List.take_length]
 congr 1
 unfold joinB
 cases R with
 | nil => simp [Lib.join_one]
 | cons a R =>
  rw [List.cons_append, List.map_cons, Lib.join_cons, List.map_append]
  have := join_snoc lf.data.toList x.data.toList (R.map (·.data.toList)) a.data.toList
  simp only [List.map_cons, List.map_nil, List.map_map] at this ⊢
  exact this
theorem seal_text (l : LLine) : sealB (rowsL l) 157 = textB l := by
 unfold textB
 rw [join_cat]; rfl
theorem rPrint_pc (l : LLine) (h : Plain l) : PC Tryz.prog 62 [lineA l] (.pure (.str (textB l))) := by
 have hG := h.gives
 have hC := h.counts
 rw [← seal_text]
 refine PC.of_empty (AC.run (E_ok _) mix Tryz.func62 m62 rfl rfl rfl (Nat.le_of_ble_eq_true rfl) ?_) (by simp [bndL, AV.bnd]) rfl
 simp only [go_sem, boxA, reduceEqDiff, Nat.reduceBEq, reduceAdd, reduceIte, reduceCtorEq, reduceLeDiff]
 refine cp n111 (rRow_pc (wordB 0) (by decide) [l.least, l.most, l.taps] (Nat.le_of_ble_eq_true rfl) h.head) (SubL.cons (Sub.refl _) (SubL.cons (Sub.unk _ _ _) (SubL.refl _))) ?_
 simp only [go_sem, builtinA, reduceEqDiff, Nat.reduceBEq, reduceAdd, reduceIte, reduceCtorEq, reduceLeDiff]
 refine wc_for l.gives.length (fun k => [(1, .ref 0 0), (3, .slice (strs (headR l :: gsR l k)) (headR l :: gsR l k).length (tailN k)), (4, .int .i64 k)]) (fun k => ⟨[some (.cells (lineC l))], k, toksN k⟩) rfl rfl ?_
 intro k hk I hI
 have eg := gsR_len l k hk
 by_cases h' : k < l.gives.length
 ·have h1 : (k : Int) < l.gives.length := by omega
  have h2 : 0 ≤ (k : Int) ∧ (k : Int) < l.gives.length := by omega
  have h3 : l.gives[k]? = some l.gives[k] := List.getElem?_eq_getElem h'
  have h4 : IntKind.i64.wrap ((k : Int) + 1) = (k + 1 : Nat) := wrap64 (by omega)
  simp only [go_sem, l62_0, builtinA, h1, decide_true, h2, ints_get, h3, reduceEqDiff, Nat.reduceBEq, reduceAdd, reduceIte, reduceCtorEq, reduceLeDiff]
  refine cp n111 (rRow_pc (wordB 1) (by decide) [l.gives[k]] (Nat.le_of_ble_eq_true rfl) (by intro n hn; simp at hn; subst hn; exact h.give _ (List.getElem_mem h'))) (SubL.cons (Sub.refl _) (SubL.cons (Sub.unk _ _ _) (SubL.refl _))) ?_
  simp only [go_sem, builtinA, reduceEqDiff, Nat.reduceBEq, reduceAdd, reduceIte, reduceCtorEq, reduceLeDiff]
  refine sr_app141 (l := headR l :: gsR l k) _ rfl (by simp; omega) ?_
  simp only [go_sem, builtinA, h4, reduceEqDiff, Nat.reduceBEq, reduceAdd, reduceIte, reduceCtorEq, reduceLeDiff]
  have := hI h'
  rw [gsR_succ l k h'] at this
  simp only [List.length_cons, List.length_append, List.length_nil] at this
  exact this
 have h1 : ¬ (k : Int) < l.gives.length := by omega
 have e : k = l.gives.length := by omega
 subst e
 clear hI hk h'
 simp only [go_sem, l62_0, builtinA, h1, decide_false, reduceEqDiff, Nat.reduceBEq, reduceAdd, reduceIte, reduceCtorEq, reduceLeDiff]
 rw [eg]
 refine wc_forG l.counts.length (fun k => [(1, .ref 0 0), (3, .slice (strs ((headR l :: gsR l l.gives.length) ++ csR l k)) (l.gives.length + 1 + k) (tailN (l.gives.length + k))), (5, .int .i64 k)]) (fun k => ⟨[some (.cells (lineC l))], l.gives.length + k, toksN (l.gives.length + k)⟩) (by simp [csR]) rfl (fun k hk => ?_) ?_
 ·refine ⟨Nat.zero_le _, Nat.zero_le _, by cases h : l.gives.length + k <;> simp [bndTS, AV.bnd, tailN], fun i B hB => ?_, fun t ht => toksN_lt ht⟩
  cases i with
  | zero => simp at hB; subst hB; simp [Blk.bnd, bndL, AV.bnd]
  | succ i => simp at hB
 intro k hk I hI
 have ec := csR_len l k hk
 by_cases h' : k < l.counts.length
 ·have h1 : (k : Int) < l.counts.length := by omega
  have h2 : 0 ≤ (k : Int) ∧ (k : Int) < l.counts.length := by omega
  have h3 : k * 3 + 3 ≤ (cnts l.counts).length := by rw [cnts_len]; omega
  have h5 := cnts_at l.counts k h'
  have h4 : IntKind.i64.wrap ((k : Int) + 1) = (k + 1 : Nat) := wrap64 (by omega)
  have hm := List.getElem_mem h'
  simp only [go_sem, l62_1, builtinA, h1, decide_true, h2, h3, h5, reduceEqDiff, Nat.reduceBEq, reduceAdd, reduceIte, reduceCtorEq, reduceLeDiff]
  refine cp n111 (rRow_pc (wordB 2) (by decide) [l.counts[k].point, l.counts[k].low, l.counts[k].high] (Nat.le_of_ble_eq_true rfl) (h.count _ hm)) (SubL.cons (Sub.refl _) (SubL.cons (Sub.unk _ _ _) (SubL.refl _))) ?_
  simp only [go_sem, builtinA, reduceEqDiff, Nat.reduceBEq, reduceAdd, reduceIte, reduceCtorEq, reduceLeDiff]
  refine sr_app141 (k := l.gives.length + k) (l := (headR l :: gsR l l.gives.length) ++ csR l k) _ (by simp [eg, ec]; omega) (by omega) ?_
  simp only [go_sem, builtinA, h4, reduceEqDiff, Nat.reduceBEq, reduceAdd, reduceIte, reduceCtorEq, reduceLeDiff]
  have := hI h' [some (.cells (cntC l.counts[k]))]
  rw [csR_succ l k h'] at this
  simp only [← Nat.add_assoc, List.append_assoc, List.cons_append, List.nil_append] at this
  exact this
 have h1 : ¬ (k : Int) < l.counts.length := by omega
 have e : k = l.counts.length := by omega
 subst e
 clear hI hk h'
 rw [← rowsL_eq, show l.gives.length + 1 + l.counts.length = (rowsL l).length by rw [rowsL_len]; omega]
 simp only [go_sem, l62_1, builtinA, h1, decide_false, reduceEqDiff, Nat.reduceBEq, reduceAdd, reduceIte, reduceCtorEq, reduceLeDiff]
 refine cp n112 (rSealed_pc (rowsL l) 157 (by decide) (rowsL_size h) (by rw [rowsL_len]; omega) _) (SubL.refl _) ?_
 simp only [go_sem, Tryz.f62, reduceEqDiff, Nat.reduceBEq, reduceAdd, reduceIte, reduceCtorEq, reduceLeDiff]
def lineM : LLine := ⟨[10, 0, 20], 5, 15, 1, [⟨0, 100, 104⟩, ⟨3, 58, 62⟩]⟩
def lineN : LLine := ⟨[10, 0, 20], 5, 15, 1, [⟨0, 100, 104⟩, ⟨3, 58, 62⟩, ⟨1, 97, 100⟩]⟩
theorem M_key : PC Tryz.prog 74 [] (.pure (.agg [.slice (ints [10, 0, 20]) 3 .exact, .int .i64 5, .int .i64 15, .int .i64 1, .slice (cnts [⟨0, 100, 104⟩, ⟨3, 58, 62⟩]) 2 .exact])) := by
 refine PC.of_empty (AC.run (E_ok _) mix Tryz.func74 m74 rfl rfl rfl (Nat.le_of_ble_eq_true rfl) ?_) rfl rfl
 have e1 : buildSliceA T 23 2 [(0, .agg [.int .i64 0, .int .i64 100, .int .i64 104]), (1, .agg [.int .i64 3, .int .i64 58, .int .i64 62])] = some (.slice (cnts [⟨0, 100, 104⟩, ⟨3, 58, 62⟩]) 2 .exact) := rfl
 simp only [go_sem, e1, Tryz.f74, reduceEqDiff, Nat.reduceBEq, reduceAdd, reduceIte, reduceCtorEq, reduceLeDiff]
 rfl
theorem M_pc : PC Tryz.prog 74 [] (.pure (lineA lineM)) := by
 intro c S w vs h1 h2
 refine (M_key c S w vs h1 h2).mono fun e w' ⟨x, he, hp⟩ => ⟨x, he, ?_⟩
 obtain ⟨c', p1, p2, p3, p4, p5⟩ := hp
 exact ⟨c', p1, p2, p3, p4, Sub.agg (SubL.cons (Sub.unk _ _ _) (SubL.cons (Sub.refl _) (SubL.cons (Sub.refl _) (SubL.cons (Sub.refl _) (SubL.cons (Sub.unk _ _ _) (SubL.refl _)))))) c' x p5⟩
theorem N_pc : PC Tryz.prog 73 [] (.pure (lineA lineN)) := by
 refine PC.of_frz (AC.run (E_ok _) mix Tryz.func73 m73 rfl rfl rfl (Nat.le_of_ble_eq_true rfl) ?_) rfl (by simp [bndL, AV.bnd])
 simp only [go_sem, reduceEqDiff, Nat.reduceBEq, reduceAdd, reduceIte, reduceCtorEq, reduceLeDiff]
 refine cp n74 M_key (SubL.refl _) ?_
 have ha : ∀ S, appendA T S 23 (.slice (cnts [⟨0, 100, 104⟩, ⟨3, 58, 62⟩]) 2 .exact) (.slice [.int .i64 1, .int .i64 97, .int .i64 100] 1 .exact) = some (.tok none (fun j => .slice (cnts lineN.counts) 3 (.tok j))) := fun S => rfl
 simp only [go_sem, put_eq, builtinA, ha, Tryz.f73, reduceEqDiff, Nat.reduceBEq, reduceAdd, reduceIte, reduceCtorEq, reduceLeDiff]
 refine ⟨_, rfl, .agg _ _ rfl fun j x y hx hy => ?_⟩
 match j, hx, hy with
 | 0, hx, hy => simp at hx hy; subst hx; subst hy; exact .unk _ _ _
 | 1, hx, hy => simp at hx hy; subst hx; subst hy; exact .same _
 | 2, hx, hy => simp at hx hy; subst hx; subst hy; exact .same _
 | 3, hx, hy => simp at hx hy; subst hx; subst hy; exact .same _
 | 4, hx, hy => simp at hx hy; subst hx; subst hy; exact .unk _ _ _
 | j + 5, hx, hy => simp at hx
end Go.Av.Fx
end
