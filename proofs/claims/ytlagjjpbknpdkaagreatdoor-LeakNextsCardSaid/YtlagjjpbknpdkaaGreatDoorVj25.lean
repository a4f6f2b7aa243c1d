/- Part 25 of the proof. -/
import Derived.Test.YtlagjjpbknpdkaaGreatDoorVj24
import Derived.Test.YtlagjjpbknpdkaaGreatDoorVj20
set_option linter.all false
set_option linter.unusedVariables false
set_option linter.unusedSimpArgs false
set_option linter.unusedSectionVars false
open Nat (reduceEqDiff reduceAdd reduceLeDiff)
section
namespace Go.Av.Fx
open Go Go.Av Go.Av.Tb Go.Proofs
theorem join_snoc (sep x : List UInt8) : ∀ (R : List (List UInt8)) (a : List UInt8), a ++ Lib.joinTail sep (R ++ [x]) = ((a :: R).map (· ++ sep)).flatten ++ x
 | [], a => by simp [Lib.joinTail]
 | b :: R, a => by
  have ih := join_snoc sep x R b
  have e : Lib.joinTail sep (b :: R ++ [x]) = sep ++ (b ++ Lib.joinTail sep (R ++ [x])) := by simp [Lib.joinTail]
  rw [e, ih]
  simp
theorem catB_list (R : List ByteArray) : ∀ k, k ≤ R.length → (catB R k).data.toList = ((R.take k).map fun r => r.data.toList ++ lf.data.toList).flatten
 | 0, _ => rfl
 | k + 1, h => by
  have ih := catB_list R k (by omega)
  have h' : k < R.length := by omega
  rw [List.take_succ_eq_append_getElem h', List.map_append, List.flatten_append, ← ih]
  show (catB R k ++ R.getD k ByteArray.empty ++ lf).data.toList = _
  rw [app_list, app_list, getD_at _ h']
  simp
theorem join_cat (R : List ByteArray) (x : ByteArray) : joinB (R ++ [x]) lf ++ lf = catB R R.length ++ x ++ lf := by
 apply ba_ext
 rw [app_list, app_list, app_list, catB_list R R.length (Nat.le_refl _), List.take_length]
 congr 1
 unfold joinB
 cases R with
 | nil => simp [Lib.join_one]
 | cons a R =>
  rw [List.cons_append, List.map_cons, Lib.join_cons, List.map_append]
  have := join_snoc lf.data.toList x.data.toList (R.map (·.data.toList)) a.data.toList
  simp only [List.map_cons, List.map_nil, List.map_map] at this ⊢
  exact this
theorem seal_text (l : LLine) : sealB (rowsL l) 157 = textB l := by
 unfold textB
 rw [join_cat]; rfl
theorem rPrint_pc (l : LLine) (h : Plain l) : PC Tryz.prog 62 [lineA l] (.pure (.str (textB l))) := by
 have hG := h.gives
 have hC := h.counts
 rw [← seal_text]
 refine PC.of_empty (AC.run (E_ok _) mix Tryz.func62 m62 rfl rfl rfl (Nat.le_of_ble_eq_true rfl) ?_) (by simp [bndL, AV.bnd]) rfl
 simp only [go_sem, boxA, reduceEqDiff, Nat.reduceBEq, reduceAdd, reduceIte, reduceCtorEq, reduceLeDiff]
 refine cp n111 (rRow_pc (wordB 0) (by decide) [l.least, l.most, l.taps] (Nat.le_of_ble_eq_true rfl) h.head) (SubL.cons (Sub.refl _) (SubL.cons (Sub.unk _ _ _) (SubL.refl _))) ?_
 simp only [go_sem, builtinA, reduceEqDiff, Nat.reduceBEq, reduceAdd, reduceIte, reduceCtorEq, reduceLeDiff]
 refine wc_for l.gives.length (fun k => [(1, .ref 0 0), (3, .slice (strs (headR l :: gsR l k)) (headR l :: gsR l k).length (tailN k)), (4, .int .i64 k)]) (fun k => ⟨[some (.cells (lineC l))], k, toksN k⟩) rfl rfl ?_
 intro k hk I hI
 have eg := gsR_len l k hk
 by_cases h' : k < l.gives.length
 ·have h1 : (k : Int) < l.gives.length := by omega
  have h2 : 0 ≤ (k : Int) ∧ (k : Int) < l.gives.length := by omega
  have h3 : l.gives[k]? = some l.gives[k] := List.getElem?_eq_getElem h'
  have h4 : IntKind.i64.wrap ((k : Int) + 1) = (k + 1 : Nat) := wrap64 (by omega)
  simp only [go_sem, l62_0, builtinA, h1, decide_true, h2, ints_get, h3, reduceEqDiff, Nat.reduceBEq, reduceAdd, reduceIte, reduceCtorEq, reduceLeDiff]
  refine cp n111 (rRow_pc (wordB 1) (by decide) [l.gives[k]] (Nat.le_of_ble_eq_true rfl) (by intro n hn; simp at hn; subst hn; exact h.give _ (List.getElem_mem h'))) (SubL.cons (Sub.refl _) (SubL.cons (Sub.unk _ _ _) (SubL.refl _))) ?_
  simp only [go_sem, builtinA, reduceEqDiff, Nat.reduceBEq, reduceAdd, reduceIte, reduceCtorEq, reduceLeDiff]
  refine sr_app141 (l := headR l :: gsR l k) _ rfl (by simp; omega) ?_
  simp only [go_sem, builtinA, h4, reduceEqDiff, Nat.reduceBEq, reduceAdd, reduceIte, reduceCtorEq, reduceLeDiff]
  have := hI h'
  rw [gsR_succ l k h'] at this
  simp only [List.length_cons, List.length_append, List.length_nil] at this
  exact this
 have h1 : ¬ (k : Int) < l.gives.length := by omega
 have e : k = l.gives.length := by omega
 subst e
 clear hI hk h'
 simp only [go_sem, l62_0, builtinA, h1, decide_false, reduceEqDiff, Nat.reduceBEq, reduceAdd, reduceIte, reduceCtorEq, reduceLeDiff]
 rw [eg]
 refine wc_forG l.counts.length (fun k => [(1, .ref 0 0), (3, .slice (strs ((headR l :: gsR l l.gives.length) ++ csR l k)) (l.gives.length + 1 + k) (tailN (l.gives.length + k))), (5, .int .i64 k)]) (fun k => ⟨[some (.cells (lineC l))], l.gives.length + k, toksN (l.gives.length + k)⟩) (by simp [csR]) rfl (fun k hk => ?_) ?_
 ·refine ⟨Nat.zero_le _, Nat.zero_le _, by cases h : l.gives.length + k <;> simp [bndTS, AV.bnd, tailN], fun i B hB => ?_, fun t ht => toksN_lt ht⟩
  cases i with
  | zero => simp at hB; subst hB; simp [Blk.bnd, bndL, AV.bnd]
  | succ i => simp at hB
 intro k hk I hI
 have ec := csR_len l k hk
 by_cases h' : k < l.counts.length
 ·have h1 : (k : Int) < l.counts.length := by omega
  have h2 : 0 ≤ (k : Int) ∧ (k : Int) < l.counts.length := by omega
  have h3 : k * 3 + 3 ≤ (cnts l.counts).length := by rw [cnts_len]; omega
  have h5 := cnts_at l.counts k h'
  have h4 : IntKind.i64.wrap ((k : Int) + 1) = (k + 1 : Nat) := wrap64 (by omega)
  have hm := List.getElem_mem h'
  simp only [go_sem, l62_1, builtinA, h1, decide_true, h2, h3, h5, reduceEqDiff, Nat.reduceBEq, reduceAdd, reduceIte, reduceCtorEq, reduceLeDiff]
  refine cp n111 (rRow_pc (wordB 2) (by decide) [l.counts[k].point, l.counts[k].low, l.counts[k].high] (Nat.le_of_ble_eq_true rfl) (h.count _ hm)) (SubL.cons (Sub.refl _) (SubL.cons (Sub.unk _ _ _) (SubL.refl _))) ?_
  simp only [go_sem, builtinA, reduceEqDiff, Nat.reduceBEq, reduceAdd, reduceIte, reduceCtorEq, reduceLeDiff]
  refine sr_app141 (k := l.gives.length + k) (l := (headR l :: gsR l l.gives.length) ++ csR l k) _ (by simp [eg, ec]; omega) (by omega) ?_
  simp only [go_sem, builtinA, h4, reduceEqDiff, Nat.reduceBEq, reduceAdd, reduceIte, reduceCtorEq, reduceLeDiff]
  have := hI h' [some (.cells (cntC l.counts[k]))]
  rw [csR_succ l k h'] at this
  simp only [← Nat.add_assoc, List.append_assoc, List.cons_append, List.nil_append] at this
  exact this
 have h1 : ¬ (k : Int) < l.counts.length := by omega
 have e : k = l.counts.length := by omega
 subst e
 clear hI hk h'
 rw [← rowsL_eq, show l.gives.length + 1 + l.counts.length = (rowsL l).length by rw [rowsL_len]; omega]
 simp only [go_sem, l62_1, builtinA, h1, decide_false, reduceEqDiff, Nat.reduceBEq, reduceAdd, reduceIte, reduceCtorEq, reduceLeDiff]
 refine cp n112 (rSealed_pc (rowsL l) 157 (by decide) (rowsL_size h) (by rw [rowsL_len]; omega) _) (SubL.refl _) ?_
 simp only [go_sem, Tryz.f62, reduceEqDiff, Nat.reduceBEq, reduceAdd, reduceIte, reduceCtorEq, reduceLeDiff]
def lineM : LLine := ⟨[10, 0, 20], 5, 15, 1, [⟨0, 100, 104⟩, ⟨3, 58, 62⟩]⟩
def lineN : LLine := ⟨[10, 0, 20], 5, 15, 1, [⟨0, 100, 104⟩, ⟨3, 58, 62⟩, ⟨1, 97, 100⟩]⟩
theorem M_key : PC Tryz.prog 74 [] (.pure (.agg [.slice (ints [10, 0, 20]) 3 .exact, .int .i64 5, .int .i64 15, .int .i64 1, .slice (cnts [⟨0, 100, 104⟩, ⟨3, 58, 62⟩]) 2 .exact])) := by
 refine PC.of_empty (AC.run (E_ok _) mix Tryz.func74 m74 rfl rfl rfl (Nat.le_of_ble_eq_true rfl) ?_) rfl rfl
 have e1 : buildSliceA T 23 2 [(0, .agg [.int .i64 0, .int .i64 100, .int .i64 104]), (1, .agg [.int .i64 3, .int .i64 58, .int .i64 62])] = some (.slice (cnts [⟨0, 100, 104⟩, ⟨3, 58, 62⟩]) 2 .exact) := rfl
 simp only [go_sem, e1, Tryz.f74, reduceEqDiff, Nat.reduceBEq, reduceAdd, reduceIte, reduceCtorEq, reduceLeDiff]
 rfl
theorem M_pc : PC Tryz.prog 74 [] (.pure (lineA lineM)) := by
 intro c S w vs h1 h2
 refine (M_key c S w vs h1 h2).mono fun e w' ⟨x, he, hp⟩ => ⟨x, he, ?_⟩
 obtain ⟨c', p1, p2, p3, p4, p5⟩ := hp
 exact ⟨c', p1, p2, p3, p4, Sub.agg (SubL.cons (Sub.unk _ _ _) (SubL.cons (Sub.refl _) (SubL.cons (Sub.refl _) (SubL.cons (Sub.refl _) (SubL.cons (Sub.unk _ _ _) (SubL.refl _)))))) c' x p5⟩
theorem N_pc : PC Tryz.prog 73 [] (.pure (lineA lineN)) := by
 refine PC.of_frz (AC.run (E_ok _) mix Tryz.func73 m73 rfl rfl rfl (Nat.le_of_ble_eq_true rfl) ?_) rfl (by simp [bndL, AV.bnd])
 simp only [go_sem, reduceEqDiff, Nat.reduceBEq, reduceAdd, reduceIte, reduceCtorEq, reduceLeDiff]
 refine cp n74 M_key (SubL.refl _) ?_
 have ha : ∀ S, appendA T S 23 (.slice (cnts [⟨0, 100, 104⟩, ⟨3, 58, 62⟩]) 2 .exact) (.slice [.int .i64 1, .int .i64 97, .int .i64 100] 1 .exact) = some (.tok none (fun j => .slice (cnts lineN.counts) 3 (.tok j))) := fun S => rfl
 simp only [go_sem, put_eq, builtinA, ha, Tryz.f73, reduceEqDiff, Nat.reduceBEq, reduceAdd, reduceIte, reduceCtorEq, reduceLeDiff]
 refine ⟨_, rfl, .agg _ _ rfl fun j x y hx hy => ?_⟩
 match j, hx, hy with
 | 0, hx, hy => simp at hx hy; subst hx; subst hy; exact .unk _ _ _
 | 1, hx, hy => simp at hx hy; subst hx; subst hy; exact .same _
 | 2, hx, hy => simp at hx hy; subst hx; subst hy; exact .same _
 | 3, hx, hy => simp at hx hy; subst hx; subst hy; exact .same _
 | 4, hx, hy => simp at hx hy; subst hx; subst hy; exact .unk _ _ _
 | j + 5, hx, hy => simp at hx
theorem rKnown_pc (l : LLine) (h : Lw l) : PC Tryz.prog 25 [lineA l] (.pure (sl (rKnown l))) := by
 have hp := h.pts
 refine PC.of_frz (AC.run (E_ok _) mix Tryz.func25 m25 rfl rfl rfl (Nat.le_of_ble_eq_true rfl) ?_) (by simp [bndL, AV.bnd]) (by simp [AV.bnd])
 simp only [go_sem, boxA, reduceEqDiff, Nat.reduceBEq, reduceAdd, reduceIte, reduceCtorEq, reduceLeDiff]
 refine cp n27 (rSets_pc l h) (SubL.refl _) ?_
 simp only [go_sem, reduceEqDiff, Nat.reduceBEq, reduceAdd, reduceIte, reduceCtorEq, reduceLeDiff]
 have hsz : ∀ s ∈ rSets l, s.length ≤ 1000 := fun s hs => setsL_sz hp.2 s (List.mem_filter.1 hs).1
 have hlen : (rSets l).length ≤ 100 := Nat.le_trans (List.length_filter_le _ _) (setsL_len5 hp.2)
 have hr : rKnown l = (List.range l.gives.length).map (rWord (rSets l)) := rfl
 rw [hr]
 generalize rSets l = L at *
 refine wc_for l.gives.length (fun k => [(1, .ref 0 0), (3, sll L), (4, gro (ints ((List.range k).map (rWord L)))), (5, .int .i64 k)]) (fun k => ⟨[some (.cells (lineC l))], k, toksN k⟩) rfl rfl ?_
 intro k hk I hI
 by_cases h' : k < l.gives.length
 ·have h1 : (k : Int) < l.gives.length := by omega
  have h4 : IntKind.i64.wrap ((k : Int) + 1) = (k + 1 : Nat) := wrap64 (by omega)
  have hI' := hI h'
  rw [List.range_succ, List.map_append] at hI'
  simp only [go_sem, l25_0, builtinA, h1, decide_true, reduceEqDiff, Nat.reduceBEq, reduceAdd, reduceIte, reduceCtorEq, reduceLeDiff]
  refine wc_for L.length (fun j => [(1, .ref 0 0), (3, sll L), (4, gro (ints ((List.range k).map (rWord L)))), (5, .int .i64 k), (6, .int .i64 ((L.take j).filter fun s => s.contains (k : Int)).length), (7, .int .i64 j)]) (fun _ => ⟨[some (.cells (lineC l))], k, toksN k⟩) rfl rfl ?_
  intro j hj I2 hI2
  by_cases h'' : j < L.length
  ·have g1 : (j : Int) < L.length := by omega
   have g2 : 0 ≤ (j : Int) ∧ (j : Int) < L.length := by omega
   have g3 : L[j]? = some L[j] := List.getElem?_eq_getElem h''
   have g4 : IntKind.i64.wrap ((j : Int) + 1) = (j + 1 : Nat) := wrap64 (by omega)
   have hn := hI2 h''
   rw [List.take_succ_eq_append_getElem h'', List.filter_append, List.length_append, List.filter_cons] at hn
   have hle := List.length_filter_le (fun s : List Int => s.contains (k : Int)) (L.take j)
   rw [List.length_take] at hle
   have w5 : IntKind.i64.wrap ((((L.take j).filter fun s => s.contains (k : Int)).length : Int) + 1) = (((L.take j).filter fun s => s.contains (k : Int)).length + 1 : Nat) := wrap64 (by omega)
   simp only [go_sem, l25_1, builtinA, g1, decide_true, g2, sls_get, g3, Option.map_some, reduceEqDiff, Nat.reduceBEq, reduceAdd, reduceIte, reduceCtorEq, reduceLeDiff]
   refine cp n77 (has_pc L[j] (by have := hsz _ (List.getElem_mem h''); show _ < _; omega) k) (SubL.refl _) ?_
   cases hc : L[j].contains (k : Int)
   ·rw [hc] at hn
    simp only [go_sem, g4, reduceEqDiff, Nat.reduceBEq, reduceAdd, reduceIte, reduceCtorEq, reduceLeDiff]
    exact hn
   ·rw [hc] at hn
    simp only [go_sem, w5, g4, reduceEqDiff, Nat.reduceBEq, reduceAdd, reduceIte, reduceCtorEq, reduceLeDiff]
    exact hn
  ·have g1 : ¬ (j : Int) < L.length := by omega
   have e : j = L.length := by omega
   subst e
   rw [List.take_length]
   have hw : rWord L k = if (L.filter fun s => s.contains (k : Int)).length = L.length then 3 else if (L.filter fun s => s.contains (k : Int)).length = 0 then 1 else 2 := rfl
   generalize (L.filter fun s => s.contains (k : Int)).length = n at *
   have fin : ∀ v : Int, v = rWord L k → I [(1, .ref 0 0), (3, sll L), (4, gro (ints ((List.range k).map (rWord L)) ++ [.int .i64 v])), (5, .int .i64 (k + 1 : Nat))] ⟨[some (.cells (lineC l))], k + 1, toksN (k + 1)⟩ := fun v hv => by
    subst hv
    have e : ints ((List.range k).map (rWord L) ++ [k].map (rWord L)) = ints ((List.range k).map (rWord L)) ++ [.int .i64 (rWord L k)] := by simp [ints]
    rw [e] at hI'; exact hI'
   by_cases c1 : n = 0
   ·have c1' : (n : Int) = 0 := by omega
    have d1 : decide ((n : Int) = 0) = true := decide_eq_true c1'
    by_cases c2 : n = L.length
    ·have d2 : decide ((n : Int) = (L.length : Int)) = true := decide_eq_true (by omega)
     simp only [go_sem, l25_1, builtinA, g1, decide_false, d1, d2, reduceEqDiff, Nat.reduceBEq, reduceAdd, reduceIte, reduceCtorEq, reduceLeDiff]
     refine sr_gro28 _ _ _ (by simp) (by omega) ?_
     simp only [go_sem, h4, reduceEqDiff, Nat.reduceBEq, reduceAdd, reduceIte, reduceCtorEq, reduceLeDiff]
     exact fin 3 (by rw [hw, if_pos c2])
    ·have d2 : decide ((n : Int) = (L.length : Int)) = false := decide_eq_false (by omega)
     simp only [go_sem, l25_1, builtinA, g1, decide_false, d1, d2, reduceEqDiff, Nat.reduceBEq, reduceAdd, reduceIte, reduceCtorEq, reduceLeDiff]
     refine sr_gro28 _ _ _ (by simp) (by omega) ?_
     simp only [go_sem, h4, reduceEqDiff, Nat.reduceBEq, reduceAdd, reduceIte, reduceCtorEq, reduceLeDiff]
     exact fin 1 (by rw [hw, if_neg c2, if_pos c1])
   ·have d1 : decide ((n : Int) = 0) = false := decide_eq_false (by omega)
    by_cases c2 : n = L.length
    ·have d2 : decide ((n : Int) = (L.length : Int)) = true := decide_eq_true (by omega)
     simp only [go_sem, l25_1, builtinA, g1, decide_false, d1, d2, reduceEqDiff, Nat.reduceBEq, reduceAdd, reduceIte, reduceCtorEq, reduceLeDiff]
     refine sr_gro28 _ _ _ (by simp) (by omega) ?_
     simp only [go_sem, h4, reduceEqDiff, Nat.reduceBEq, reduceAdd, reduceIte, reduceCtorEq, reduceLeDiff]
     exact fin 3 (by rw [hw, if_pos c2])
    ·have d2 : decide ((n : Int) = (L.length : Int)) = false := decide_eq_false (by omega)
     simp only [go_sem, l25_1, builtinA, g1, decide_false, d1, d2, reduceEqDiff, Nat.reduceBEq, reduceAdd, reduceIte, reduceCtorEq, reduceLeDiff]
     refine sr_gro28 _ _ _ (by simp) (by omega) ?_
     simp only [go_sem, h4, reduceEqDiff, Nat.reduceBEq, reduceAdd, reduceIte, reduceCtorEq, reduceLeDiff]
     exact fin 2 (by rw [hw, if_neg c2, if_neg c1])
 ·have h1 : ¬ (k : Int) < l.gives.length := by omega
  have e : k = l.gives.length := by omega
  subst e
  simp only [go_sem, l25_0, builtinA, h1, decide_false, Tryz.f25, reduceEqDiff, Nat.reduceBEq, reduceAdd, reduceIte, reduceCtorEq, reduceLeDiff]
  refine ⟨_, rfl, ?_⟩
  have := gro_frz_same [some (Blk.cells (lineC l))] (ints ((List.range l.gives.length).map (rWord L)))
  rw [ints_len] at this
  exact this
end Go.Av.Fx
end
section
namespace Go.Av.Fx
open Go Go.Av Go.Proofs
open Go.Fw (Sq ent Bd Mat Tells Good)
structure Spn (P : (Nat → Int) → Prop) (g : (Nat → Int) → Int) (sp : Span) : Prop where
 bd : ∀ f, P f → sp.low ≤ g f ∧ g f ≤ sp.high
 lo : ∃ f, P f ∧ g f = sp.low
 hi : ∃ f, P f ∧ g f = sp.high
theorem Spn.imp {P Q : (Nat → Int) → Prop} {g : (Nat → Int) → Int} {a : Span} (h : Spn P g a) (e : ∀ f, P f ↔ Q f) : Spn Q g a := by
 obtain ⟨f1, p1, e1⟩ := h.lo
 obtain ⟨f2, p2, e2⟩ := h.hi
 exact ⟨fun f hf => h.bd f ((e f).2 hf), ⟨f1, (e _).1 p1, e1⟩, ⟨f2, (e _).1 p2, e2⟩⟩
theorem Spn.join {P Q : (Nat → Int) → Prop} {g : (Nat → Int) → Int} {a b : Span} (h : Spn P g a) (h' : Spn Q g b) : Spn (fun f => P f ∨ Q f) g (joinS a b) := by
 obtain ⟨f1, p1, e1⟩ := h.lo
 obtain ⟨f2, p2, e2⟩ := h.hi
 obtain ⟨f3, p3, e3⟩ := h'.lo
 obtain ⟨f4, p4, e4⟩ := h'.hi
 unfold joinS
 refine ⟨?_, ?_, ?_⟩
 ·rintro f (hf | hf)
  ·have := h.bd f hf
   constructor
   ·show (if b.low < a.low then b.low else a.low) ≤ _; split <;> omega
   ·show _ ≤ (if b.high > a.high then b.high else a.high); split <;> omega
  ·have := h'.bd f hf
   constructor
   ·show (if b.low < a.low then b.low else a.low) ≤ _; split <;> omega
   ·show _ ≤ (if b.high > a.high then b.high else a.high); split <;> omega
 ·by_cases c : b.low < a.low
  ·exact ⟨f3, .inr p3, by show _ = if b.low < a.low then b.low else a.low; rw [if_pos c]; exact e3⟩
  ·exact ⟨f1, .inl p1, by show _ = if b.low < a.low then b.low else a.low; rw [if_neg c]; exact e1⟩
 ·by_cases c : b.high > a.high
  ·exact ⟨f4, .inr p4, by show _ = if b.high > a.high then b.high else a.high; rw [if_pos c]; exact e4⟩
  ·exact ⟨f2, .inl p2, by show _ = if b.high > a.high then b.high else a.high; rw [if_neg c]; exact e2⟩
theorem Spn.fold {α : Type} {P : α → (Nat → Int) → Prop} {g : (Nat → Int) → Int} {f : α → Span} : ∀ (L : List α) {Q : (Nat → Int) → Prop} {o : Span}, Spn Q g o → (∀ t ∈ L, Spn (P t) g (f t)) →
  Spn (fun x => Q x ∨ ∃ t, t ∈ L ∧ P t x) g (L.foldl (fun o t => joinS o (f t)) o)
 | [], Q, o, h, _ => h.imp fun x => ⟨.inl, fun hx => hx.elim id fun ⟨t, ht, _⟩ => by cases ht⟩
 | t :: L, Q, o, h, hL => by
  refine (Spn.fold L (h.join (hL t List.mem_cons_self)) fun t ht => hL t (List.mem_cons_of_mem _ ht)).imp fun x => ?_
  constructor
  ·rintro ((h | h) | ⟨u, hu, h⟩)
   ·exact .inl h
   ·exact .inr ⟨t, List.mem_cons_self, h⟩
   ·exact .inr ⟨u, List.mem_cons_of_mem _ hu, h⟩
  ·rintro (h | ⟨u, hu, h⟩)
   ·exact .inl (.inl h)
   ·rcases List.mem_cons.1 hu with rfl | hu
    ·exact .inl (.inr h)
    ·exact .inr ⟨u, hu, h⟩
theorem span_eq {l : LLine} (h : Lw l) {s : List Int} {W : Mat} (hW : explM l s = some W) {a b : Nat} (ha : a < l.gives.length + 2) (hb : b < l.gives.length + 2) : spanM W a b = ⟨-ent W b a, ent W a b⟩ := by
 have := expl_bd h hW hb ha
 unfold spanM
 rw [w64_eq (by omega), Int.zero_sub]
theorem flow_spn {l : LLine} (h : Lw l) {s : List Int} {W : Mat} (hW : explM l s = some W) {p : Nat} (hp : p ≤ l.gives.length) : Spn (Fl l s) (fun f => f p) (spanM W (l.gives.length + 1) p) := by
 rw [span_eq h hW (by omega) (by omega)]
 have h1 := expl_mx h hW (a := l.gives.length + 1) (b := p) (by omega) (by omega)
 have h2 := expl_mx h hW (a := p) (b := l.gives.length + 1) (by omega) (by omega)
 have e1 : ∀ f, ex l f p = f p := fun f => by unfold ex; rw [if_pos hp]
 have e2 : ∀ f, ex l f (l.gives.length + 1) = 0 := fun f => by unfold ex; rw [if_neg (by omega)]
 simp only [e1, e2] at h1 h2
 obtain ⟨f1, p1, q1⟩ := h1.2
 obtain ⟨f2, p2, q2⟩ := h2.2
 refine ⟨fun f hf => ?_, ⟨f2, p2, ?_⟩, ⟨f1, p1, ?_⟩⟩
 ·have := h1.1 f hf; have := h2.1 f hf
  simp only at *; omega
 ·simp only at *; omega
 ·simp only at *; omega
def Fa (l : LLine) (f : Nat → Int) : Prop := ∃ s, s ∈ setsL l.gives.length ∧ (s.length : Int) ≤ l.taps ∧ Fl l s f
theorem poss_fa {l : LLine} (h : Lw l) : possB l = true ↔ ∃ f, Fa l f := by
 rw [poss_iff h]
 exact ⟨fun ⟨s, h1, h2, f, h3⟩ => ⟨f, s, h1, h2, h3⟩, fun ⟨f, s, h1, h2, h3⟩ => ⟨s, h1, h2, f, h3⟩⟩
theorem poss_len {l : LLine} : possB l = true ↔ 0 < (theftsL l).length := by
 unfold possB; rw [decide_eq_true_iff]
end Go.Av.Fx
end
section
namespace Go.Av.Fx
open Go Go.Av Go.Av.Tb Go.Proofs
end Go.Av.Fx
end
section
namespace Go.Av.Fx
open Go Go.Av Go.Proofs
open Go.Fw (Sq ent Bd Mat Tells Good)
theorem mem_setsL {m : Nat} {s : List Int} : s ∈ setsL m ↔ s = [] ∨ (∃ i : Nat, i < m ∧ s = [(i : Int)]) ∨ ∃ i k : Nat, i < k ∧ k < m ∧ s = [(i : Int), (k : Int)] := by
 unfold setsL ones twos twosAt
 simp only [List.mem_cons, List.mem_append, List.mem_map, List.mem_range, List.mem_flatMap]
 constructor
 ·rintro (h | ⟨i, hi, h⟩ | ⟨i, hi, j, hj, h⟩)
  ·exact .inl h
  ·exact .inr (.inl ⟨i, hi, h.symm⟩)
  ·exact .inr (.inr ⟨i, i + 1 + j, by omega, by omega, h.symm⟩)
 ·rintro (h | ⟨i, hi, h⟩ | ⟨i, k, hi, hk, h⟩)
  ·exact .inl h
  ·exact .inr (.inl ⟨i, hi, h.symm⟩)
  ·exact .inr (.inr ⟨i, by omega, k - (i + 1), by omega, by rw [h, show i + 1 + (k - (i + 1)) = k by omega]⟩)
theorem setsL_in {m : Nat} {s : List Int} (h : s ∈ setsL m) : ∀ x ∈ s, 0 ≤ x ∧ x < m := by
 intro x hx
 rcases mem_setsL.1 h with rfl | ⟨i, hi, rfl⟩ | ⟨i, k, hi, hk, rfl⟩
 ·cases hx
 ·simp at hx; subst hx; omega
 ·simp at hx; rcases hx with rfl | rfl <;> omega
def cntS (s : List Int) : Nat → Int
 | 0 => 0
 | k + 1 => cntS s k + (if s.contains (k : Int) = true then 1 else 0)
end Go.Av.Fx
end
section
namespace Go.Av.Fx
open Go Go.Av Go.Proofs
open Go.Fw (Sq ent Bd Mat Tells Good)
def moreL (l : LLine) (c : Cnt) : LLine := { l with counts := l.counts ++ [c] }
def addedL (l : LLine) (p : Int) (read off : Int) : LLine := moreL l ⟨p, susLo read off, susHi read off⟩
theorem more_lw {l : LLine} (h : Lw l) (hc : l.counts.length < 1000) {c : Cnt} (hk : (0 ≤ c.point ∧ c.point ≤ l.gives.length) ∧ 0 ≤ c.low ∧ c.low ≤ c.high ∧ c.high ≤ 400) : Lw (moreL l c) := by
 refine ⟨h.pts, by simp [moreL]; omega, h.least, h.most, h.taps, h.gives, fun d hd => ?_⟩
 rcases List.mem_append.1 hd with hd | hd
 ·exact h.counts d hd
 ·simp at hd; subst hd; exact hk
theorem more_fl {l : LLine} {c : Cnt} {s : List Int} {f : Nat → Int} : Fl (moreL l c) s f ↔ Fl l s f ∧ c.low ≤ f c.point.toNat ∧ f c.point.toNat ≤ c.high := by
 constructor
 ·intro h
  exact ⟨⟨h.pos, h.top, h.step, fun d hd => h.cnt d (List.mem_append_left _ hd)⟩, h.cnt c (List.mem_append_right _ List.mem_cons_self)⟩
 ·rintro ⟨h, hc⟩
  refine ⟨h.pos, h.top, h.step, fun d hd => ?_⟩
  rcases List.mem_append.1 hd with hd | hd
  ·exact h.cnt d hd
  ·simp at hd; subst hd; exact hc
theorem more_fa {l : LLine} {c : Cnt} {f : Nat → Int} : Fa (moreL l c) f ↔ Fa l f ∧ c.low ≤ f c.point.toNat ∧ f c.point.toNat ≤ c.high := by
 unfold Fa
 constructor
 ·rintro ⟨s, h1, h2, h3⟩
  obtain ⟨h3, h4⟩ := more_fl.1 h3
  exact ⟨⟨s, h1, h2, h3⟩, h4⟩
 ·rintro ⟨⟨s, h1, h2, h3⟩, h4⟩
  exact ⟨s, h1, h2, more_fl.2 ⟨h3, h4⟩⟩
theorem sus_bd {read off : Int} (hr : 0 ≤ read ∧ read ≤ 400) (ho : 0 ≤ off) : 0 ≤ susLo read off ∧ susLo read off ≤ susHi read off ∧ susHi read off ≤ 400 := by
 unfold susLo susHi
 split <;> split <;> omega
theorem added_lw {l : LLine} (h : Lw l) (hc : l.counts.length < 1000) {p read off : Int} (hp : 0 ≤ p ∧ p ≤ l.gives.length) (hr : 0 ≤ read ∧ read ≤ 400) (ho : 0 ≤ off) : Lw (addedL l p read off) :=
 more_lw h hc ⟨hp, sus_bd hr ho⟩
theorem fa_bd {l : LLine} (h : Lw l) {f : Nat → Int} (hf : Fa l f) {p : Nat} (hp : p ≤ l.gives.length) : 0 ≤ f p ∧ f p ≤ 400 := by
 obtain ⟨s, _, _, h3⟩ := hf
 exact h3.bd h hp
theorem poss_out {l : LLine} : possB l = true ↔ 0 < (setsOut l).length := by
 rw [setsOut_len]; exact poss_len
theorem Fl.between {l : LLine} {s : List Int} {f g : Nat → Int} (hf : Fl l s f) (hg : Fl l s g) {p : Nat} {v : Int} (h1 : f p ≤ v) (h2 : v ≤ g p) : ∃ x, Fl l s x ∧ x p = v := by
 refine ⟨fun q => min (g q) (f q + (v - f p)), ⟨fun q hq => ?_, ?_, fun i hi => ?_, fun c hc => ?_⟩, ?_⟩
 ·have := hf.pos q hq; have := hg.pos q hq
  show 0 ≤ min (g q) (f q + (v - f p)); omega
 ·have := hg.top
  show min (g 0) (f 0 + (v - f p)) ≤ 400; omega
 ·have := hf.step i hi; have := hg.step i hi
  show lowL l s i ≤ min (g i) (f i + (v - f p)) - min (g (i + 1)) (f (i + 1) + (v - f p)) ∧ min (g i) (f i + (v - f p)) - min (g (i + 1)) (f (i + 1) + (v - f p)) ≤ highL l s i
  omega
 ·have := hf.cnt c hc; have := hg.cnt c hc
  show c.low ≤ min (g c.point.toNat) (f c.point.toNat + (v - f p)) ∧ min (g c.point.toNat) (f c.point.toNat + (v - f p)) ≤ c.high
  omega
 ·show min (g p) (f p + (v - f p)) = v; omega
theorem overlap_iff {l : LLine} (h : Lw l) {s : List Int} {W : Mat} (hW : explM l s = some W) {p : Nat} (hp : p ≤ l.gives.length) {lo hi : Int} (hlh : lo ≤ hi) :
  (¬ (spanM W (l.gives.length + 1) p).low > hi ∧ ¬ (spanM W (l.gives.length + 1) p).high < lo) ↔ ∃ f, Fl l s f ∧ lo ≤ f p ∧ f p ≤ hi := by
 have hs := flow_spn h hW hp
 obtain ⟨f1, p1, e1⟩ := hs.lo
 obtain ⟨f2, p2, e2⟩ := hs.hi
 constructor
 ·rintro ⟨h1, h2⟩
  obtain ⟨x, hx, ex⟩ := p1.between p2 (p := p) (v := max (f1 p) lo) (by omega) (by have := (hs.bd f2 p2).1; omega)
  exact ⟨x, hx, by omega⟩
 ·rintro ⟨f, hf, h1, h2⟩
  have := hs.bd f hf
  omega
theorem added_expl {l : LLine} (h : Lw l) (hc : l.counts.length < 1000) {s : List Int} {p read off : Int} (hp : 0 ≤ p ∧ p ≤ l.gives.length) (hr : 0 ≤ read ∧ read ≤ 400) (ho : 0 ≤ off) :
  (explM (addedL l p read off) s).isSome = true ↔ ∃ W, explM l s = some W ∧ ¬ (spanM W (l.gives.length + 1) p.toNat).low > susHi read off ∧ ¬ (spanM W (l.gives.length + 1) p.toNat).high < susLo read off := by
 rw [expl_iff (added_lw h hc hp hr ho)]
 have hb := sus_bd hr ho
 constructor
 ·rintro ⟨ht, f, hf⟩
  obtain ⟨h1, h2⟩ := more_fl.1 hf
  obtain ⟨W, hW⟩ := Option.isSome_iff_exists.1 ((expl_iff h s).2 ⟨ht, f, h1⟩)
  exact ⟨W, hW, (overlap_iff h hW (by omega) hb.2.1).2 ⟨f, h1, h2⟩⟩
 ·rintro ⟨W, hW, ho⟩
  obtain ⟨f, hf, h2⟩ := (overlap_iff h hW (by omega) hb.2.1).1 ho
  exact ⟨((expl_iff h s).1 (by rw [hW]; rfl)).1, f, more_fl.2 ⟨hf, h2⟩⟩
end Go.Av.Fx
end
section
namespace Go.Av.Fx
open Go Go.Av Go.Av.Tb Go.Proofs
theorem cnts_ones (l : List Cnt) : (cnts l).all AV.one = true := by
 rw [List.all_eq_true]
 intro x hx
 unfold cnts at hx
 obtain ⟨c, _, h⟩ := List.mem_flatMap.1 hx
 simp [cntC] at h
 rcases h with rfl | rfl | rfl <;> rfl
theorem app_nil23 {S : St} {cs : List Cnt} {t : Tail} (h0 : 0 < cs.length) (hl : cs.length ≤ 1000) : appendA T S 23 .nilS (.slice (cnts cs) cs.length t) = some (.tok none fun j => .slice (cnts cs) cs.length (.tok j)) := by
 have h1 : descOf T 23 = some (.slice 82) := rfl
 have h2 : T 82 = some ti82 := rfl
 have h3 : ti82.size = 3 := rfl
 have h4 : ti82.bytes = 24 := rfl
 have h5 : heldA S 3 (.slice (cnts cs) cs.length t) = some (cnts cs, cs.length) := by
  show (if (cnts cs).length = cs.length * 3 then some (cnts cs, cs.length) else none) = _
  rw [if_pos (by rw [cnts_len]; omega)]
 unfold appendA
 simp only [h1, h2, h3, h4, h5, cnts_ones, Bool.not_true, Bool.false_eq_true, if_false]
 rw [if_neg (by decide), if_neg (by omega), if_pos (by omega)]
theorem app_tok23 {S : St} {cs : List Cnt} {c : Cnt} {k : Nat} (hl : cs.length ≤ 1000) : appendA T S 23 (.slice (cnts cs) cs.length (.tok k)) (.slice [.int .i64 c.point, .int .i64 c.low, .int .i64 c.high] 1 .exact) = some (.tok (some k) fun j => .slice (cnts (cs ++ [c])) (cs.length + 1) (.tok j)) := by
 rw [app_gen (e := 82) (ei := ti82) (lx := [.int .i64 c.point, .int .i64 c.low, .int .i64 c.high]) (nx := 1) rfl rfl (by decide) rfl (by decide) rfl (by show (cs.length + 1) * 24 ≤ _; omega) (by omega) (by rw [cnts_len]; simp [ti82]; omega)]
 show some (Res.tok (some k) fun j => .slice (cnts cs ++ cnts [c]) (cs.length + 1) (.tok j)) = _
 rw [cnts_app]
theorem moreL_frz (H : List (Option Blk)) (l : LLine) (c : Cnt) (n : Nat) (hn : n = l.counts.length + 1) (t : Tail) : Frz H (.agg [sl l.gives, .int .i64 l.least, .int .i64 l.most, .int .i64 l.taps, .slice (cnts (l.counts ++ [c])) n t]) (lineA (moreL l c)) := by
 refine .agg _ _ rfl fun j x y hx hy => ?_
 have e : (l.counts ++ [c]).length = n := by rw [hn]; simp
 match j, hx, hy with
 | 0, hx, hy => simp at hx; cases hy; subst hx; exact .same _
 | 1, hx, hy => simp at hx; cases hy; subst hx; exact .same _
 | 2, hx, hy => simp at hx; cases hy; subst hx; exact .same _
 | 3, hx, hy => simp at hx; cases hy; subst hx; exact .same _
 | 4, hx, hy =>
  simp at hx; subst hx
  have : y = .slice (cnts (l.counts ++ [c])) (l.counts ++ [c]).length .unk := by cases hy; rfl
  rw [this, e]; exact .unk _ _ _
 | j + 5, hx, hy => simp at hx
theorem sr_pure' {K : AV → St → Prop} {h : Hold K} {v : AV} {S : St} (hk : K v S) : sr K h (some (.pure v)) S := by
 rw [sr_pure]; exact hk
theorem Added_pc (l : LLine) (hc : l.counts.length ≤ 1000) (p read off : Int) (hr : 0 ≤ read ∧ read ≤ 400) (ho : 0 ≤ off ∧ off ≤ 400) : PC Tryz.prog 42 [lineA l, .int .i64 p, .int .i64 read, .int .i64 off] (.pure (lineA (addedL l p read off))) := by
 refine PC.of_frz (AC.run (E_ok _) mix Tryz.func42 m42 rfl rfl rfl (Nat.le_of_ble_eq_true rfl) ?_) (by simp [bndL, AV.bnd]) (by simp [bndL, AV.bnd])
 have w1 : IntKind.i64.wrap (read - off) = read - off := wrap64 (by omega)
 have w2 : IntKind.i64.wrap (read + off) = read + off := wrap64 (by omega)
 unfold addedL
 simp only [go_sem, boxA, put_eq, builtinA, reduceEqDiff, Nat.reduceBEq, reduceAdd, reduceIte, reduceCtorEq, reduceLeDiff]
 rcases Nat.eq_zero_or_pos l.counts.length with h0 | h0
 ·have hn : l.counts = [] := List.length_eq_zero_iff.1 h0
  have e1 : ∀ S, appendA T S 23 .nilS (.slice (cnts l.counts) l.counts.length .unk) = some (.pure .nilS) := fun S => by rw [hn]; rfl
  have e2 : ∀ S (c : Cnt), appendA T S 23 .nilS (.slice [.int .i64 c.point, .int .i64 c.low, .int .i64 c.high] 1 .exact) = some (.tok none fun j => .slice [.int .i64 c.point, .int .i64 c.low, .int .i64 c.high] 1 (.tok j)) := fun S c => rfl
  have e2' := fun S => e2 S ⟨p, susLo read off, susHi read off⟩
  unfold susLo susHi at e2'
  simp only at e2'
  rw [e1]
  refine sr_pure' ?_
  simp only [go_sem, put_eq, builtinA, w1, w2, minsA, maxsA, e2', Tryz.f42, reduceEqDiff, Nat.reduceBEq, reduceAdd, reduceIte, reduceCtorEq, reduceLeDiff]
  refine ⟨_, rfl, ?_⟩
  have hh := fun H => moreL_frz H l ⟨p, susLo read off, susHi read off⟩ 1 (by rw [hn]; rfl) (.tok 0)
  rw [show l.counts ++ [⟨p, susLo read off, susHi read off⟩] = [⟨p, susLo read off, susHi read off⟩] by rw [hn]; rfl] at hh
  exact hh _
 ·have e2 : ∀ S k, appendA T S 23 (.slice (cnts l.counts) l.counts.length (.tok k)) (.slice [.int .i64 p, .int .i64 (susLo read off), .int .i64 (susHi read off)] 1 .exact) = some (.tok (some k) fun j => .slice (cnts (l.counts ++ [⟨p, susLo read off, susHi read off⟩])) (l.counts.length + 1) (.tok j)) := fun S k => app_tok23 (c := ⟨p, susLo read off, susHi read off⟩) hc
  unfold susLo susHi at e2
  rw [app_nil23 h0 hc]
  simp only [go_sem, put_eq, builtinA, w1, w2, minsA, maxsA, e2, Tryz.f42, reduceEqDiff, Nat.reduceBEq, reduceAdd, reduceIte, reduceCtorEq, reduceLeDiff]
  exact ⟨List.mem_cons_self, _, rfl, moreL_frz _ l _ _ rfl _⟩
end Go.Av.Fx
end
section
namespace Go.Av.Fx
open Go Go.Av Go.Av.Tb Go.Proofs
def cntNe (l : List Int) : Nat → Int
 | 0 => 0
 | k + 1 => if l.getD k 0 ≠ 1 then cntNe l k + 1 else cntNe l k
theorem cntNe_bd (l : List Int) : ∀ k : Nat, 0 ≤ cntNe l k ∧ cntNe l k ≤ k
 | 0 => by simp [cntNe]
 | k + 1 => by have := cntNe_bd l k; unfold cntNe; split <;> omega
def susR (l : LLine) : Int := cntNe (rKnown l) (rKnown l).length
theorem Suspects_pc (l : LLine) (h : Lw l) : PC Tryz.prog 133 [lineA l] (.pure (.int .i64 (susR l))) := by
 have hp := h.pts
 have hl : (rKnown l).length = l.gives.length := by simp [rKnown]
 refine PC.of_empty (AC.run (E_ok _) mix Tryz.func133 m133 rfl rfl rfl (Nat.le_of_ble_eq_true rfl) ?_) (by simp [bndL, AV.bnd]) rfl
 simp only [go_sem, boxA, reduceEqDiff, Nat.reduceBEq, reduceAdd, reduceIte, reduceCtorEq, reduceLeDiff]
 refine cp n25 (rKnown_pc l h) (SubL.refl _) ?_
 unfold susR
 generalize rKnown l = W at *
 simp only [go_sem, reduceEqDiff, Nat.reduceBEq, reduceAdd, reduceIte, reduceCtorEq, reduceLeDiff]
 refine wc_for W.length (fun k => [(3, sl W), (4, .int .i64 (cntNe W k)), (5, .int .i64 k)]) (fun _ => ⟨[some (.cells (lineC l))], 0, []⟩) rfl rfl ?_
 intro k hk I hI
 by_cases g : k < W.length
 ·have h1 : (k : Int) < W.length := by omega
  have h2 : 0 ≤ (k : Int) ∧ (k : Int) < W.length := by omega
  have h3 : W[k]? = some (W.getD k 0) := by rw [List.getD_eq_getElem?_getD, List.getElem?_eq_getElem g]; rfl
  have h4 : IntKind.i64.wrap ((k : Int) + 1) = (k + 1 : Nat) := wrap64 (by omega)
  have hb := cntNe_bd W k
  have w1 : IntKind.i64.wrap (cntNe W k + 1) = cntNe W k + 1 := wrap64 (by omega)
  have hI := hI g
  by_cases hz : W.getD k 0 ≠ 1
  ·have hd := decide_eq_true hz
   have e : cntNe W (k + 1) = cntNe W k + 1 := if_pos hz
   rw [e] at hI
   simp only [go_sem, l133_0, builtinA, h1, decide_true, h2, ints_get, h3, Option.map_some, hd, w1, h4, reduceEqDiff, Nat.reduceBEq, reduceAdd, reduceIte, reduceCtorEq, reduceLeDiff]
   exact hI
  ·have e : cntNe W (k + 1) = cntNe W k := if_neg hz
   rw [e] at hI
   simp only [go_sem, l133_0, builtinA, h1, decide_true, h2, ints_get, h3, Option.map_some, hz, decide_false, h4, reduceEqDiff, Nat.reduceBEq, reduceAdd, reduceIte, reduceCtorEq, reduceLeDiff]
   exact hI
 ·have h1 : ¬ (k : Int) < W.length := by omega
  have ek : k = W.length := by omega
  subst ek
  simp only [go_sem, l133_0, builtinA, h1, decide_false, Tryz.f133, reduceEqDiff, Nat.reduceBEq, reduceAdd, reduceIte, reduceCtorEq, reduceLeDiff]
def worstR (l : LLine) (p off : Int) : Nat → Int
 | 0 => -1
 | k + 1 => if possB (addedL l p k off) = true then (if susR (addedL l p k off) > worstR l p off k then susR (addedL l p k off) else worstR l p off k) else worstR l p off k
theorem susR_bd {l : LLine} : 0 ≤ susR l ∧ susR l ≤ l.gives.length := by
 have hl : (rKnown l).length = l.gives.length := by simp [rKnown]
 have := cntNe_bd (rKnown l) (rKnown l).length
 unfold susR; omega
theorem Worst_pc (l : LLine) (h : Ln l) (p : Nat) (hp : p ≤ l.gives.length) (off : Int) (ho : 0 ≤ off ∧ off ≤ 20) : PC Tryz.prog 99 [lineA l, .int .i64 p, .int .i64 off] (.pure (.int .i64 (worstR l p off 401))) := by
 have hc := h.cts
 refine PC.of_empty (AC.run (E_ok _) mix Tryz.func99 m99 rfl rfl rfl (Nat.le_of_ble_eq_true rfl) ?_) (by simp [bndL, AV.bnd]) rfl
 simp only [go_sem, boxA, reduceEqDiff, Nat.reduceBEq, reduceAdd, reduceIte, reduceCtorEq, reduceLeDiff]
 refine wc_forG 401 (fun k => [(1, .int .i64 p), (2, .int .i64 off), (3, .ref 0 0), (7, .int .i64 (worstR l p off k)), (8, .int .i64 k)]) (fun _ => ⟨[some (.cells (lineC l))], 0, []⟩) rfl rfl (fun k hk => ?_) ?_
 ·refine ⟨Nat.zero_le _, Nat.zero_le _, by simp [bndTS, AV.bnd], fun i B hB => ?_, fun t ht => by cases ht⟩
  match i, hB with
  | 0, hB => simp at hB; subst hB; simp [Blk.bnd, bndL, AV.bnd]
  | i + 1, hB => simp at hB
 intro k hk I hI
 obtain ⟨C, hB⟩ : ∃ C, l99_0 = .seq (.seq (.region [1, 2, 3, 7, 8, 11] r99_3) (.cond (.tmp 11) .skip (.exit 0))) C := ⟨_, rfl⟩
 have hB2 := hB
 rw [hB]
 by_cases g : k < 401
 ·have h1 : (k : Int) ≤ 400 := by omega
  have h4 : IntKind.i64.wrap ((k : Int) + 1) = (k + 1 : Nat) := wrap64 (by omega)
  have hA := Added_pc l (by omega) p k off (by omega) (by omega)
  have hwx := added_lw h.lw (by omega) (p := (p : Int)) (read := (k : Int)) (off := off) (by omega) (by omega) ho.1
  have hR := rPoss_pc _ hwx
  rw [rPoss_eq hwx] at hR
  have hS := Suspects_pc _ hwx
  have hI := hI g
  rw [show worstR l p off (k + 1) = if possB (addedL l p k off) = true then (if susR (addedL l p k off) > worstR l p off k then susR (addedL l p k off) else worstR l p off k) else worstR l p off k from rfl] at hI
  generalize addedL l p k off = x at *
  generalize worstR l p off k = w at *
  simp only [go_sem, builtinA, h1, decide_true, reduceEqDiff, Nat.reduceBEq, reduceAdd, reduceIte, reduceCtorEq, reduceLeDiff]
  unfold l99_0 at hB2
  injection hB2 with _ hB2
  subst hB2
  simp only [go_sem, reduceEqDiff, Nat.reduceBEq, reduceAdd, reduceIte, reduceCtorEq, reduceLeDiff]
  refine cp n42 hA (SubL.refl _) ?_
  simp only [go_sem, put_eq, reduceEqDiff, Nat.reduceBEq, reduceAdd, reduceIte, reduceCtorEq, reduceLeDiff]
  refine cp n71 hR (SubL.refl _) ?_
  cases hp' : possB x
  ·rw [hp', if_neg (by decide)] at hI
   simp only [go_sem, h4, reduceEqDiff, Nat.reduceBEq, reduceAdd, reduceIte, reduceCtorEq, reduceLeDiff]
   exact hI [_]
  ·rw [hp', if_pos rfl] at hI
   simp only [go_sem, reduceEqDiff, Nat.reduceBEq, reduceAdd, reduceIte, reduceCtorEq, reduceLeDiff]
   refine cp n133 hS (SubL.refl _) ?_
   simp only [go_sem, builtinA, maxsA, h4, reduceEqDiff, Nat.reduceBEq, reduceAdd, reduceIte, reduceCtorEq, reduceLeDiff]
   exact hI [_]
 ·have h1 : ¬ (k : Int) ≤ 400 := by omega
  have ek : k = 401 := by omega
  subst ek
  simp only [go_sem, builtinA, h1, decide_false, Tryz.f99, reduceEqDiff, Nat.reduceBEq, reduceAdd, reduceIte, reduceCtorEq, reduceLeDiff]
end Go.Av.Fx
end
section
namespace Go.Av.Fx
open Go Go.Av Go.Av.Tb Go.Proofs
def nxt (c : Nat → Int) : Nat → Ch
 | 0 => ⟨0, c 0⟩
 | k + 1 => better (nxt c k) ⟨((k + 1 : Nat) : Int), c (k + 1)⟩
theorem best_nxt (c : Nat → Int) (n : Nat) : bestL ((List.range (n + 1)).map fun (p : Nat) => (⟨p, c p⟩ : Ch)) = nxt c n := by
 have hh : ((List.range (n + 1)).map fun (p : Nat) => (⟨p, c p⟩ : Ch)).headD ⟨0, 0⟩ = ⟨0, c 0⟩ := by
  rw [List.range_succ_eq_map]; rfl
 unfold bestL
 rw [hh]
 clear hh
 induction n with
 | zero =>
  show better ⟨0, c 0⟩ ⟨0, c 0⟩ = _
  unfold better; rw [if_neg (by show ¬ c 0 < c 0; omega)]; rfl
 | succ n ih =>
  rw [List.range_succ, List.map_append, List.foldl_append, ih]
  rfl
theorem rNext_pc (l : LLine) (h : Ln l) (off : Int) (ho : 0 ≤ off ∧ off ≤ 20) : PC Tryz.prog 45 [lineA l, .int .i64 off] (.pure (.tuple [.int .i64 (nxt (fun p => worstR l p off 401) l.gives.length).point, .int .i64 (nxt (fun p => worstR l p off 401) l.gives.length).left])) := by
 have hp := h.pts
 refine PC.of_empty (AC.run (E_ok _) mix Tryz.func45 m45 rfl rfl rfl (Nat.le_of_ble_eq_true rfl) ?_) (by simp [bndL, AV.bnd]) rfl
 have hW := fun (p : Nat) (hp : p ≤ l.gives.length) => Worst_pc l h p hp off ho
 generalize hc : (fun p : Nat => worstR l p off 401) = c
 have hW' : ∀ p : Nat, p ≤ l.gives.length → PC Tryz.prog 99 [lineA l, .int .i64 p, .int .i64 off] (.pure (.int .i64 (c p))) := fun p hp => by rw [← hc]; exact hW p hp
 simp only [go_sem, boxA, reduceEqDiff, Nat.reduceBEq, reduceAdd, reduceIte, reduceCtorEq, reduceLeDiff]
 refine cp n99 (hW' 0 (Nat.zero_le _)) (SubL.refl _) ?_
 simp only [go_sem, reduceEqDiff, Nat.reduceBEq, reduceAdd, reduceIte, reduceCtorEq, reduceLeDiff]
 refine wc_for l.gives.length (fun k => [(1, .int .i64 off), (2, .ref 0 0), (6, .int .i64 (nxt c k).point), (7, .int .i64 (nxt c k).left), (8, .int .i64 (k + 1 : Nat))]) (fun _ => ⟨[some (.cells (lineC l))], 0, []⟩) rfl rfl ?_
 intro k hk I hI
 obtain ⟨C, hB⟩ : ∃ C, l45_0 = .seq (.seq (.region [1, 2, 6, 7, 8, 17] r45_3) (.cond (.tmp 17) .skip (.exit 0))) C := ⟨_, rfl⟩
 have hB2 := hB
 rw [hB]
 by_cases g : k < l.gives.length
 ·have h1 : ((k + 1 : Nat) : Int) ≤ l.gives.length := by omega
  have h4 : IntKind.i64.wrap (((k + 1 : Nat) : Int) + 1) = (k + 1 + 1 : Nat) := wrap64 (by omega)
  have hI := hI g
  have hC := hW' (k + 1) (by omega)
  rw [show nxt c (k + 1) = better (nxt c k) ⟨((k + 1 : Nat) : Int), c (k + 1)⟩ from rfl] at hI
  generalize nxt c k = o at hI ⊢
  simp only [go_sem, builtinA, h1, decide_true, reduceEqDiff, Nat.reduceBEq, reduceAdd, reduceIte, reduceCtorEq, reduceLeDiff]
  unfold l45_0 at hB2
  injection hB2 with _ hB2
  subst hB2
  simp only [go_sem, reduceEqDiff, Nat.reduceBEq, reduceAdd, reduceIte, reduceCtorEq, reduceLeDiff]
  refine cp n99 hC (SubL.refl _) ?_
  by_cases hb : c (k + 1) < o.left
  ·have e : better o ⟨((k + 1 : Nat) : Int), c (k + 1)⟩ = ⟨((k + 1 : Nat) : Int), c (k + 1)⟩ := if_pos hb
   rw [e] at hI
   simp only [go_sem, hb, decide_true, h4, reduceEqDiff, Nat.reduceBEq, reduceAdd, reduceIte, reduceCtorEq, reduceLeDiff]
   exact hI
  ·have e : better o ⟨((k + 1 : Nat) : Int), c (k + 1)⟩ = o := if_neg hb
   rw [e] at hI
   simp only [go_sem, hb, decide_false, h4, reduceEqDiff, Nat.reduceBEq, reduceAdd, reduceIte, reduceCtorEq, reduceLeDiff]
   exact hI
 ·have h1 : ¬ ((k + 1 : Nat) : Int) ≤ l.gives.length := by omega
  have ek : k = l.gives.length := by omega
  subst ek
  simp only [go_sem, builtinA, h1, decide_false, Tryz.f45, reduceEqDiff, Nat.reduceBEq, reduceAdd, reduceIte, reduceCtorEq, reduceLeDiff]
end Go.Av.Fx
end
section
namespace Go.Av.Fx
open Go Go.Av Go.Proofs
open Go.Fw (Sq ent Bd Mat)
theorem addK_mem {ks : List Int} {n x : Int} : x ∈ addK ks n ↔ x ∈ ks ∨ x = n := by
 unfold addK
 split
 ·rename_i h
  rw [List.contains_iff_mem] at h
  exact ⟨.inl, fun hh => hh.elim id fun e => e ▸ h⟩
 ·simp
theorem addK_nd {ks : List Int} {n : Int} (h : ks.Nodup) : (addK ks n).Nodup := by
 unfold addK
 split
 ·exact h
 ·rename_i hn
  rw [List.nodup_append]
  refine ⟨h, by simp, fun a ha b hb e => ?_⟩
  simp at hb
  subst hb; subst e
  exact hn (List.contains_iff_mem.2 ha)
theorem addKs : ∀ (s : List Int) (ks : List Int), (ks.Nodup → (s.foldl addK ks).Nodup) ∧ ∀ x, x ∈ s.foldl addK ks ↔ x ∈ ks ∨ x ∈ s
 | [], ks => ⟨id, fun x => by simp⟩
 | a :: s, ks => by
  obtain ⟨h1, h2⟩ := addKs s (addK ks a)
  refine ⟨fun h => h1 (addK_nd h), fun x => ?_⟩
  rw [List.foldl_cons, h2, addK_mem, List.mem_cons]
  constructor
  ·rintro ((h | h) | h)
   ·exact .inl h
   ·exact .inr (.inl h)
   ·exact .inr (.inr h)
  ·rintro (h | h | h)
   ·exact .inl (.inl h)
   ·exact .inl (.inr h)
   ·exact .inr h
def seen (n p : Nat) (lo hi : Int) (t : Theft) : Prop := ¬ (spanM t.2 n p).low > hi ∧ ¬ (spanM t.2 n p).high < lo
theorem sus_fold (n p : Nat) (lo hi : Int) : ∀ (L : List Theft) (acc : Bool × List Int), acc.2.Nodup →
  (L.foldl (susStep n p lo hi) acc).2.Nodup ∧ ((L.foldl (susStep n p lo hi) acc).1 = true ↔ acc.1 = true ∨ ∃ t ∈ L, seen n p lo hi t) ∧ ∀ x, x ∈ (L.foldl (susStep n p lo hi) acc).2 ↔ x ∈ acc.2 ∨ ∃ t ∈ L, seen n p lo hi t ∧ x ∈ t.1
 | [], acc, h => ⟨h, by simp, fun x => by simp⟩
 | t :: L, acc, h => by
  rw [List.foldl_cons]
  by_cases hs : seen n p lo hi t
  ·have e : susStep n p lo hi acc t = (true, t.1.foldl addK acc.2) := by
    unfold susStep; rw [if_neg hs.1, if_neg hs.2]
   rw [e]
   obtain ⟨k1, k2⟩ := addKs t.1 acc.2
   obtain ⟨h1, h2, h3⟩ := sus_fold n p lo hi L (true, t.1.foldl addK acc.2) (k1 h)
   refine ⟨h1, ?_, fun x => ?_⟩
   ·rw [h2]
    exact ⟨fun _ => .inr ⟨t, List.mem_cons_self, hs⟩, fun _ => .inl rfl⟩
   ·rw [h3, k2]
    constructor
    ·rintro ((h | h) | ⟨t', ht, hh⟩)
     ·exact .inl h
     ·exact .inr ⟨t, List.mem_cons_self, hs, h⟩
     ·exact .inr ⟨t', List.mem_cons_of_mem _ ht, hh⟩
    ·rintro (h | ⟨t', ht, hh⟩)
     ·exact .inl (.inl h)
     ·rcases List.mem_cons.1 ht with rfl | ht
      ·exact .inl (.inr hh.2)
      ·exact .inr ⟨t', ht, hh⟩
  ·have e : susStep n p lo hi acc t = acc := by
    unfold susStep
    unfold seen at hs
    split
    ·rfl
    ·split
     ·rfl
     ·rename_i a b; exact absurd ⟨a, b⟩ hs
   rw [e]
   obtain ⟨h1, h2, h3⟩ := sus_fold n p lo hi L acc h
   refine ⟨h1, ?_, fun x => ?_⟩
   ·rw [h2]
    constructor
    ·rintro (h | ⟨t', ht, hh⟩)
     ·exact .inl h
     ·exact .inr ⟨t', List.mem_cons_of_mem _ ht, hh⟩
    ·rintro (h | ⟨t', ht, hh⟩)
     ·exact .inl h
     ·rcases List.mem_cons.1 ht with rfl | ht
      ·exact absurd hh hs
      ·exact .inr ⟨t', ht, hh⟩
   ·rw [h3]
    constructor
    ·rintro (h | ⟨t', ht, hh⟩)
     ·exact .inl h
     ·exact .inr ⟨t', List.mem_cons_of_mem _ ht, hh⟩
    ·rintro (h | ⟨t', ht, hh⟩)
     ·exact .inl h
     ·rcases List.mem_cons.1 ht with rfl | ht
      ·exact absurd hh.1 hs
      ·exact .inr ⟨t', ht, hh⟩
theorem cntS_eq : ∀ (n : Nat) (U : List Int), U.Nodup → (∀ x ∈ U, ∃ i : Nat, i < n ∧ x = i) → (U.length : Int) = cntS U n
 | 0, U, _, h => by
  cases U with
  | nil => rfl
  | cons a U => obtain ⟨i, hi, _⟩ := h a List.mem_cons_self; omega
 | n + 1, U, hd, h => by
  have same : ∀ (V : List Int), (∀ i : Nat, i < n → V.contains (i : Int) = U.contains (i : Int)) → ∀ k, k ≤ n → cntS V k = cntS U k := by
   intro V hV k
   induction k with
   | zero => intro _; rfl
   | succ k ih => intro hk; unfold cntS; rw [ih (by omega), hV k (by omega)]
  by_cases hn : (n : Int) ∈ U
  ·have hl := List.length_erase_of_mem hn
   have hpos : 0 < U.length := List.length_pos_of_mem hn
   have ih := cntS_eq n (U.erase (n : Int)) (hd.erase _) (fun x hx => by
    rw [hd.mem_erase_iff] at hx
    obtain ⟨i, hi, rfl⟩ := h x hx.2
    exact ⟨i, by omega, rfl⟩)
   rw [same (U.erase (n : Int)) (fun i hi => by
    rw [Bool.eq_iff_iff, List.contains_iff_mem, List.contains_iff_mem, hd.mem_erase_iff]
    exact ⟨fun hh => hh.2, fun hh => ⟨by omega, hh⟩⟩) n (Nat.le_refl _)] at ih
   unfold cntS
   rw [if_pos (List.contains_iff_mem.2 hn), ← ih]
   omega
  ·have ih := cntS_eq n U hd (fun x hx => by
    obtain ⟨i, hi, rfl⟩ := h x hx
    refine ⟨i, ?_, rfl⟩
    by_cases e : i = n
    ·subst e; exact absurd hx hn
    ·omega)
   unfold cntS
   rw [if_neg (fun hh => hn (List.contains_iff_mem.1 hh)), ← ih]
   omega
theorem added_out {l : LLine} (h : Lw l) (hc : l.counts.length < 1000) {p read off : Int} (hp : 0 ≤ p ∧ p ≤ l.gives.length) (hr : 0 ≤ read ∧ read ≤ 400) (ho : 0 ≤ off) (s : List Int) :
  s ∈ setsOut (addedL l p read off) ↔ ∃ t ∈ theftsL l, seen (l.gives.length + 1) p.toNat (susLo read off) (susHi read off) t ∧ t.1 = s := by
 rw [setsOut_eq, List.mem_filter, added_expl h hc hp hr ho]
 constructor
 ·rintro ⟨h1, W, h2, h3⟩
  exact ⟨(s, W), mem_thefts.2 ⟨h1, h2⟩, h3, rfl⟩
 ·rintro ⟨t, h1, h2, rfl⟩
  obtain ⟨h3, h4⟩ := mem_thefts.1 h1
  exact ⟨h3, t.2, h4, h2⟩
theorem sus_eq {l : LLine} (h : Lw l) (hc : l.counts.length < 1000) {p : Nat} {read off : Int} (hp : p ≤ l.gives.length) (hr : 0 ≤ read ∧ read ≤ 400) (ho : 0 ≤ off) :
  susL l (theftsL l) p read off = if possB (addedL l p read off) = true then susR (addedL l p read off) else -1 := by
 have hout := added_out h hc (p := (p : Int)) (by omega) hr ho
 rw [Int.toNat_natCast] at hout
 obtain ⟨h1, h2, h3⟩ := sus_fold (l.gives.length + 1) p (susLo read off) (susHi read off) (theftsL l) (false, []) List.nodup_nil
 unfold susL
 generalize (theftsL l).foldl (susStep (l.gives.length + 1) p (susLo read off) (susHi read off)) (false, []) = acc at h1 h2 h3 ⊢
 have hw := added_lw h hc (p := (p : Int)) (read := read) (off := off) (by omega) hr ho
 have hg : (addedL l p read off).gives = l.gives := rfl
 generalize addedL l p read off = x at *
 have e1 : (acc.1 = true) ↔ possB x = true := by
  rw [h2, poss_out]
  constructor
  ·rintro (hh | ⟨t, ht, hs⟩)
   ·cases hh
   ·exact List.length_pos_of_mem ((hout t.1).2 ⟨t, ht, hs, rfl⟩)
  ·intro hh
   obtain ⟨s, hs⟩ := List.exists_mem_of_length_pos hh
   obtain ⟨t, ht, hs, _⟩ := (hout s).1 hs
   exact .inr ⟨t, ht, hs⟩
 by_cases hpx : possB x = true
 case neg => rw [if_neg (fun hh => hpx (e1.1 hh)), if_neg hpx]
 rw [if_pos (e1.2 hpx), if_pos hpx]
 have hm : ∀ y, y ∈ acc.2 ↔ ∃ s ∈ setsOut x, y ∈ s := fun y => by
  rw [h3]
  constructor
  ·rintro (hh | ⟨t, ht, hs, hy⟩)
   ·cases hh
   ·exact ⟨t.1, (hout t.1).2 ⟨t, ht, hs, rfl⟩, hy⟩
  ·rintro ⟨s, hs, hy⟩
   obtain ⟨t, ht, hq, e⟩ := (hout s).1 hs
   exact .inr ⟨t, ht, hq, by rw [e]; exact hy⟩
 have hin : ∀ y ∈ acc.2, ∃ i : Nat, i < l.gives.length ∧ y = i := fun y hy => by
  obtain ⟨s, hs, hys⟩ := (hm y).1 hy
  have := setsL_in ((mem_setsOut hw).1 hs).1 y hys
  rw [hg] at this
  exact ⟨y.toNat, by omega, by omega⟩
 rw [cntS_eq l.gives.length acc.2 h1 hin]
 have hl : (rKnown x).length = l.gives.length := by simp [rKnown, hg]
 unfold susR
 rw [hl]
 have hpos := poss_out.1 hpx
 have key : ∀ k, k ≤ l.gives.length → cntS acc.2 k = cntNe (rKnown x) k := by
  intro k
  induction k with
  | zero => intro _; rfl
  | succ k ih =>
   intro hk
   unfold cntS cntNe
   rw [ih (by omega)]
   have hw1 : (rKnown x).getD k 0 = rWord (setsOut x) k := by
    rw [List.getD_eq_getElem?_getD]
    unfold rKnown
    rw [List.getElem?_map, List.getElem?_range (by rw [hg]; omega), rSets_eq hw]; rfl
   rw [hw1]
   have hiff : acc.2.contains (k : Int) = true ↔ rWord (setsOut x) k ≠ 1 := by
    rw [List.contains_iff_mem, hm]
    have hc : (∃ s ∈ setsOut x, (k : Int) ∈ s) ↔ 0 < ((setsOut x).filter fun s => s.contains (k : Int)).length := by
     constructor
     ·rintro ⟨s, hs, hk⟩
      exact List.length_pos_of_mem (List.mem_filter.2 ⟨hs, List.contains_iff_mem.2 hk⟩)
     ·intro hh
      obtain ⟨s, hs⟩ := List.exists_mem_of_length_pos hh
      exact ⟨s, (List.mem_filter.1 hs).1, List.contains_iff_mem.1 (List.mem_filter.1 hs).2⟩
    rw [hc]
    unfold rWord
    split
    ·rename_i e; exact ⟨fun _ => by decide, fun _ => by omega⟩
    ·split
     ·rename_i e; exact ⟨fun hh => by omega, fun hh => absurd rfl hh⟩
     ·rename_i e; exact ⟨fun _ => by decide, fun _ => by omega⟩
   by_cases hz : rWord (setsOut x) k ≠ 1
   ·rw [if_pos (hiff.2 hz), if_pos hz]
   ·rw [if_neg (fun hh => hz (hiff.1 hh)), if_neg hz, Int.add_zero]
 exact key _ (Nat.le_refl _)
theorem worst_eq {l : LLine} (h : Lw l) (hc : l.counts.length < 1000) (hpo : possB l = true) {p : Nat} {off : Int} (hp : p ≤ l.gives.length) (ho : 0 ≤ off) : worstL l (theftsL l) p off = worstR l p off 401 := by
 have step : ∀ k, k ≤ 401 → (List.range k).foldl (worstStep l (theftsL l) p off) 0 = (if worstR l p off k < 0 then 0 else worstR l p off k) ∧ -1 ≤ worstR l p off k ∧ ∀ j, j < k → possB (addedL l p j off) = true → 0 ≤ worstR l p off k := by
  intro k
  induction k with
  | zero => intro _; exact ⟨rfl, Int.le_refl _, fun j hj => by omega⟩
  | succ k ih =>
   intro hk
   obtain ⟨h1, h2, h3⟩ := ih (by omega)
   rw [List.range_succ, List.foldl_append, h1]
   have hs := sus_eq h hc (p := p) (read := (k : Int)) (off := off) hp (by omega) ho
   have hb := susR_bd (l := addedL l p k off)
   have hr : worstR l p off (k + 1) = if possB (addedL l p k off) = true then (if susR (addedL l p k off) > worstR l p off k then susR (addedL l p k off) else worstR l p off k) else worstR l p off k := rfl
   show (worstStep l (theftsL l) p off _ k = _) ∧ _
   unfold worstStep
   rw [hs, hr]
   by_cases hq : possB (addedL l p k off) = true
   ·rw [if_pos hq, if_pos hq]
    refine ⟨?_, ?_, fun j hj hj2 => ?_⟩
    ·split <;> split <;> (try split) <;> (try split) <;> omega
    ·split <;> omega
    ·split <;> omega
   ·rw [if_neg hq, if_neg hq]
    refine ⟨?_, h2, fun j hj hj2 => ?_⟩
    ·split <;> (try split) <;> omega
    ·by_cases e : j = k
     ·subst e; exact absurd hj2 hq
     ·exact h3 j (by omega) hj2
 obtain ⟨h1, h2, h3⟩ := step 401 (Nat.le_refl _)
 obtain ⟨f, hf⟩ := (poss_fa h).1 hpo
 have hb := fa_bd h hf hp
 have : 0 ≤ worstR l p off 401 := h3 (f p).toNat (by omega) (by
  have e : ((f p).toNat : Int) = f p := by omega
  rw [e]
  have hwx := added_lw h hc (p := (p : Int)) (read := f p) (off := off) (by omega) hb ho
  refine (poss_fa hwx).2 ⟨f, more_fa.2 ⟨hf, ?_⟩⟩
  rw [show ((⟨(p : Int), susLo (f p) off, susHi (f p) off⟩ : Cnt).point).toNat = p from Int.toNat_natCast p]
  show susLo (f p) off ≤ f p ∧ f p ≤ susHi (f p) off
  unfold susLo susHi
  constructor <;> split <;> omega)
 unfold worstL
 rw [h1, if_neg (by omega)]
end Go.Av.Fx
end
