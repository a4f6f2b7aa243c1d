/- Part 22 of the proof. -/
import Derived.Test.YtlagjjpbknpdkaaGreatDoorVn21
import Derived.Test.YtlagjjpbknpdkaaGreatDoorVn20
import Derived.Shelf.Strings.OnBuilder
import Derived.Shelf.LaysM
import Derived.Shelf.Strconv.Itoa3
import Derived.Shelf.Strings.Prefix
import Derived.Shelf.Strings.Split
import Derived.Test.YtlagjjpbknpdkaaGreatDoorProg
import Derived.Test.YtlagjjpbknpdkaaGreatDoorVn11
import Derived.Lib.ItoaLen
set_option linter.all false
set_option linter.unusedVariables false
set_option linter.unusedSimpArgs false
set_option linter.unusedSectionVars false
open Nat (reduceEqDiff reduceAdd reduceLeDiff)
section
namespace Go.Av.Fx
open Go Go.Av Go.Av.Tb Go.Proofs
open Go.Fw (Sq ent Bd Mat upd row stage upto)
theorem gclosed_ac {A C : List (Option Blk)} {R : Mat} {n : Nat} (hR : Sq n R) (hn0 : 0 < n) (hn : n ≤ 13) (mlow : ∀ i j, i < n → j < n → -1000000 ≤ ent R i j) (mhigh : ∀ i j, i < n → j < n → ent R i j ≤ 400) {off : Nat} (ho : A.length = off) (nt : Nat) (toks : List Nat) :
  AC Tryz.prog 122 [gA off n] ⟨A ++ (heapR R ++ C), nt, toks⟩ fun e S' => e = .ret (.bool (diagB n (upto far n n R))) ∧ S' = ⟨A ++ (heapR (upto far n n R) ++ C), nt, toks⟩ := by
 refine AC.run (Es_ok _ _) mix Tryz.func122 m122 rfl rfl rfl (Nat.le_of_ble_eq_true rfl) ?_
 have h7 : (7 : Int) ^ n ≤ 7 ^ 13 := Fw.pow_le (by decide) _ hn
 simp only [go_sem, reduceEqDiff, Nat.reduceBEq, reduceAdd, reduceIte, reduceCtorEq, reduceLeDiff]
 refine wc_for n (fun k => [(0, gA off n), (3, .int .i64 k)]) (fun k => ⟨A ++ (heapR (upto far n k R) ++ C), nt, toks⟩) rfl rfl ?_
 intro c hc I hI
 by_cases h : c < n
 ·have h' : (c : Int) < (n : Nat) := by omega
  have h6 : IntKind.i64.wrap ((c : Int) + 1) = (c + 1 : Nat) := wrap64 (by omega)
  have sqc : Sq n (upto far n c R) := hR.upto far n c
  simp only [go_sem, l122_0, builtinA, h', decide_true, reduceEqDiff, Nat.reduceBEq, reduceAdd, reduceIte, reduceCtorEq, reduceLeDiff]
  refine wc_for n (fun k => [(0, gA off n), (3, .int .i64 c), (4, .int .i64 k)]) (fun k => ⟨A ++ (heapR ((List.range k).foldl (row far n c) (upto far n c R)) ++ C), nt, toks⟩) rfl rfl ?_
  intro a ha I2 hI2
  by_cases hA : a < n
  ·have hA' : (a : Int) < (n : Nat) := by omega
   have hA6 : IntKind.i64.wrap ((a : Int) + 1) = (a + 1 : Nat) := wrap64 (by omega)
   have sqa : Sq n ((List.range a).foldl (row far n c) (upto far n c R)) := Fw.fold_ind (fun _ w => Sq n w) _ _ _ sqc fun _ _ _ hw => hw.row _ _ _ _
   simp only [go_sem, l122_1, builtinA, hA', decide_true, reduceEqDiff, Nat.reduceBEq, reduceAdd, reduceIte, reduceCtorEq, reduceLeDiff]
   refine wc_for n (fun k => [(0, gA off n), (3, .int .i64 c), (4, .int .i64 a), (5, .int .i64 k)]) (fun k => ⟨A ++ (heapR ((List.range k).foldl (upd far c a) ((List.range a).foldl (row far n c) (upto far n c R))) ++ C), nt, toks⟩) rfl rfl ?_
   intro b hb3 I3 hI3
   by_cases hB : b < n
   ·have hB' : (b : Int) < (n : Nat) := by omega
    have hB6 : IntKind.i64.wrap ((b : Int) + 1) = (b + 1 : Nat) := wrap64 (by omega)
    have sqb : Sq n ((List.range b).foldl (upd far c a) ((List.range a).foldl (row far n c) (upto far n c R))) := Fw.fold_ind (fun _ w => Sq n w) _ _ _ sqa fun _ _ _ hw => hw.upd _ _ _ _
    have hnext := hI3 hB
    rw [Fw.fold_succ] at hnext
    have low := Fw.low_in (n := n) (X := 1000000) (W := R) (by decide) hR far mlow (c := c) (a := a) (b := b) h hA (by omega)
    have high : ∀ i j, i < n → j < n → ent ((List.range b).foldl (upd far c a) ((List.range a).foldl (row far n c) (upto far n c R))) i j ≤ 400 := fun i j hi hj =>
     Int.le_trans (Fw.high_in (n := n) (W := R) hR far (c := c) (a := a) (b := b) (by omega) (by omega) i j (.inr hA)) (mhigh i j hi hj)
    generalize (List.range b).foldl (upd far c a) ((List.range a).foldl (row far n c) (upto far n c R)) = V at *
    have xa : 0 ≤ (a : Int) ∧ (a : Int) < (n : Nat) := by omega
    have xb : 0 ≤ (b : Int) ∧ (b : Int) < (n : Nat) := by omega
    have xc : 0 ≤ (c : Int) ∧ (c : Int) < (n : Nat) := by omega
    have ra := rowsO_get (off := off) (n := n) hA
    have rc := rowsO_get (off := off) (n := n) h
    have ca := cells_mid (C := C) sqb hA ho
    have cc := cells_mid (C := C) sqb h ho
    have eac := ints_ent sqb hA h
    have ecb := ints_ent sqb h hB
    have eab := ints_ent sqb hA hB
    have k1 : b + 1 ≤ n := by omega
    have lenA := sqb.getD hA
    have sset := setH_mid (C := C) sqb hA ho b
    have w1 := low a c hA h
    have w2 := low c b h hB
    have w3 := high a c hA h
    have w4 := high c b h hB
    have hwrap : IntKind.i64.wrap (ent V a c + ent V c b) = ent V a c + ent V c b := wrap64 (by
     have e7 : (7 : Int) ^ 13 = 96889010407 := by decide
     omega)
    have ef : far = 1099511627776 := rfl
    have hu : upd far c a V b = Fw.put V a b (if ent V a c + ent V c b < ent V a b then ent V a c + ent V c b else ent V a b) := by
     unfold upd
     rw [if_pos ⟨by omega, by omega⟩]
     congr 1
     omega
    rw [hu] at hnext
    simp only [go_sem, l122_2, builtinA, hB', decide_true, reduceEqDiff, Nat.reduceBEq, reduceAdd, reduceIte, reduceCtorEq, reduceLeDiff]
    simp only [go_sem, xa, xb, xc, ra, rc, ca, cc, eac, ecb, eab, nat_idx, Nat.mul_one, and_self, hwrap, builtinA, minsA, AV.cells, AV.one, List.all_cons, List.all_nil, Bool.and_self, splice, ints_len, lenA, k1, sset, hB6, put_eq, reduceEqDiff, Nat.reduceBEq, reduceAdd, reduceIte, reduceCtorEq, reduceLeDiff]
    exact hnext
   ·have hB' : ¬ (b : Int) < (n : Nat) := by omega
    simp only [go_sem, l122_2, builtinA, hB', decide_false, hA6, reduceEqDiff, Nat.reduceBEq, reduceAdd, reduceIte, reduceCtorEq, reduceLeDiff]
    have := hI2 hA
    rw [Fw.fold_succ] at this
    rw [show b = n by omega]
    exact this
  ·have hA' : ¬ (a : Int) < (n : Nat) := by omega
   simp only [go_sem, l122_1, builtinA, hA', decide_false, h6, reduceEqDiff, Nat.reduceBEq, reduceAdd, reduceIte, reduceCtorEq, reduceLeDiff]
   have := hI h
   rw [show upto far n (c + 1) R = stage far n (upto far n c R) c from Fw.fold_succ _ _ _] at this
   rw [show a = n by omega]
   exact this
 ·have h' : ¬ (c : Int) < (n : Nat) := by omega
  have hcm : c = n := by omega
  subst hcm
  simp only [go_sem, l122_0, builtinA, h', decide_false, reduceEqDiff, Nat.reduceBEq, reduceAdd, reduceIte, reduceCtorEq, reduceLeDiff]
  clear hI hc h h' I
  have sqV : Sq c (upto far c c R) := hR.upto far c c
  generalize upto far c c R = V at *
  refine wc_forP c (fun k => ∀ i, i < k → 0 ≤ ent V i i) (fun k => [(0, gA off c), (6, .int .i64 k)]) (fun k => ⟨A ++ (heapR V ++ C), nt, toks⟩) (fun i hi => absurd hi (Nat.not_lt_zero _)) rfl rfl ?_
  intro a ha hP I hI
  by_cases h : a < c
  ·have h' : (a : Int) < (c : Nat) := by omega
   have h6 : IntKind.i64.wrap ((a : Int) + 1) = (a + 1 : Nat) := wrap64 (by omega)
   have xa : 0 ≤ (a : Int) ∧ (a : Int) < (c : Nat) := by omega
   have ra := rowsO_get (off := off) (n := c) h
   have ca := cells_mid (C := C) sqV h ho
   have eaa := ints_ent sqV h h
   simp only [go_sem, l122_3, builtinA, h', decide_true, xa, ra, ca, eaa, nat_idx, Nat.mul_one, and_self, reduceEqDiff, Nat.reduceBEq, reduceAdd, reduceIte, reduceCtorEq, reduceLeDiff]
   by_cases g : ent V a a < 0
   ·simp only [go_sem, g, decide_true, Tryz.f122, reduceEqDiff, Nat.reduceBEq, reduceAdd, reduceIte, reduceCtorEq, reduceLeDiff]
    refine ⟨?_, trivial⟩
    have : diagB c V = false := by
     unfold diagB
     rw [List.all_eq_false]
     exact ⟨a, List.mem_range.2 h, by rw [decide_eq_true_iff]; omega⟩
    rw [this]
   ·simp only [go_sem, g, decide_false, h6, reduceEqDiff, Nat.reduceBEq, reduceAdd, reduceIte, reduceCtorEq, reduceLeDiff]
    refine hI h fun i hi => ?_
    by_cases e : i = a
    ·subst e; omega
    ·exact hP i (by omega)
  ·have h' : ¬ (a : Int) < (c : Nat) := by omega
   simp only [go_sem, l122_3, builtinA, h', decide_false, Tryz.f122, reduceEqDiff, Nat.reduceBEq, reduceAdd, reduceIte, reduceCtorEq, reduceLeDiff]
   refine ⟨?_, trivial⟩
   have : diagB c V = true := by
    unfold diagB
    rw [List.all_eq_true]
    intro i hi
    rw [decide_eq_true_iff]
    exact hP i (by have := List.mem_range.1 hi; omega)
   rw [this]
theorem beg_sq (n : Nat) : Sq n (begM n) := (beg_good n).sq
theorem rl_low {n : Nat} {cs : List Bd} (hcs : ∀ c ∈ cs, c.Ok 400 400 n) {i j : Nat} (hi : i < n) (hj : j < n) : -1000000 ≤ ent (cs.foldl Fw.addc (begM n)) i j := by
 have := ((beg_good n).fold hcs).low i j hi hj; omega
theorem rl_high {n : Nat} {cs : List Bd} (hcs : ∀ c ∈ cs, c.Ok 400 400 n) {i j : Nat} (hi : i < n) (hj : j < n) : ent (cs.foldl Fw.addc (begM n)) i j ≤ 400 := by
 refine Int.le_trans (Fw.fold_le (beg_good n).sq (fun c hc => ⟨(hcs c hc).a, (hcs c hc).b⟩) i j) ?_
 refine (beg_good n).small i j hi hj ?_
 rw [ent_beg hi hj]
 split
 ·decide
 ·split <;> decide
theorem grid_frz {A C : List (Option Blk)} {n off : Nat} {V : Mat} (h : Sq n V) (ho : A.length = off) (t : Tail) : Frz (A ++ (heapR V ++ C)) (.slice (rowsO off n n) n t) (wS V) := by
 subst ho
 show Frz _ _ (.slice (V.map sl) V.length .unk)
 rw [h.1]
 refine .slice _ _ _ _ (by simp [h.1]) fun j x y hx hy => ?_
 have hj : j < n := by
  rcases Nat.lt_or_ge j n with h' | h'
  ·exact h'
  ·rw [List.getElem?_eq_none (by simpa using h')] at hx; cases hx
 have hl : j < V.length := by rw [h.1]; exact hj
 rw [rowsO_get hj] at hx
 simp only [Option.some.injEq] at hx
 subst hx
 rw [List.getElem?_map, List.getElem?_eq_getElem hl] at hy
 simp only [Option.map_some, Option.some.injEq] at hy
 subst hy
 have hlen : V[j].length = n := h.2 j _ (List.getElem?_eq_getElem hl)
 have hc : (A ++ (heapR V ++ C))[A.length + j]? = some (some (.cells (ints V[j]))) := by
  rw [List.getElem?_append_right (by omega), Nat.add_sub_cancel_left, heapR_get hl]
 have := Frz.row (h := A ++ (heapR V ++ C)) (A.length + j) 0 n n 1 (ints V[j]) hc (by simp [hlen]) (Nat.le_refl _)
 rw [List.drop_zero, List.take_of_length_le (by simp [hlen])] at this
 show Frz _ _ (.slice (ints V[j]) V[j].length .unk)
 rw [hlen]; exact this
def withA (l : LLine) (s : List Int) : AV := .tuple [wS (withV l s), .bool (withB l s)]
theorem withA_bnd (l : LLine) (s : List Int) : (withA l s).bnd 0 0 = true := by simp [withA, bndL, AV.bnd]
theorem with_pc (l : LLine) (h : Lw l) (s : List Int) (hs : s.length ≤ 1000) : PC Tryz.prog 79 [lineA l, sl s] (.pure (withA l s)) := by
 have hp := h.pts
 refine PC.of_frz (AC.run (E_ok _) mix Tryz.func79 m79 rfl rfl rfl (Nat.le_of_ble_eq_true rfl) ?_) (by simp [bndL, AV.bnd]) (withA_bnd l s)
 have w1 : IntKind.i64.wrap ((l.gives.length : Int) + 1) = (l.gives.length + 1 : Nat) := wrap64 (by omega)
 simp only [go_sem, boxA, builtinA, w1, reduceEqDiff, Nat.reduceBEq, reduceAdd, reduceIte, reduceCtorEq, reduceLeDiff]
 refine cac n120 (begin_ac [some (.cells (lineC l))] (l.gives.length + 1) (by omega)) (fun v S' hR => ?_) (fun v S' hR => ?_)
 rotate_left
 ·obtain ⟨e, _⟩ := hR
  cases e
 obtain ⟨e, rfl⟩ := hR
 cases e
 simp only [go_sem, reduceEqDiff, Nat.reduceBEq, reduceAdd, reduceIte, reduceCtorEq, reduceLeDiff]
 have hA := AC.args (args := [.slice (rowsO 1 (l.gives.length + 2) (l.gives.length + 2)) (l.gives.length + 2) (.tok (l.gives.length + 1)), lineA l, sl s, .int .i64 1]) (gline_ac (C := []) h (A := [some (.cells (lineC l))]) (beg_sq (l.gives.length + 2)) rfl s hs (b := 1) (by omega) (by omega) (by omega) (l.gives.length + 2) [l.gives.length + 1]) (SubL.cons (Sub.unk _ _ _) (SubL.refl _))
 rw [List.append_nil] at hA
 refine cac n121 hA (fun v S' hR => ?_) (fun v S' hR => ?_)
 rotate_left
 ·obtain ⟨e, _⟩ := hR
  cases e
 obtain ⟨e, C', rfl⟩ := hR
 cases e
 clear hA
 have hok := rlineB_okw h s (b := 1) (n := l.gives.length + 2) (by omega) (by omega)
 have hcl := gclosed_ac (A := [some (.cells (lineC l))]) (C := C') (off := 1) (fold_sq (rlineB l s 1) (beg_sq (l.gives.length + 2))) (by omega) (by omega) (fun i j hi hj => rl_low hok hi hj) (fun i j hi hj => rl_high hok hi hj) rfl (l.gives.length + 2) [l.gives.length + 1]
 have hV : upto far (l.gives.length + 2) (l.gives.length + 2) ((rlineB l s 1).foldl Fw.addc (begM (l.gives.length + 2))) = withV l s := rfl
 rw [hV] at hcl
 have hsq := withV_sq h s
 have hw : withA l s = .tuple [wS (withV l s), .bool (diagB (l.gives.length + 2) (withV l s) && decide ((s.length : Int) ≤ l.taps))] := rfl
 rw [hw]
 clear hw hV
 generalize withV l s = V at *
 have hcl := AC.args (args := [.slice (rowsO 1 (l.gives.length + 2) (l.gives.length + 2)) (l.gives.length + 2) (.tok (l.gives.length + 1))]) hcl (SubL.cons (Sub.unk _ _ _) (SubL.refl _))
 simp only [go_sem, reduceEqDiff, Nat.reduceBEq, reduceAdd, reduceIte, reduceCtorEq, reduceLeDiff]
 refine cac n122 hcl (fun v S' hR => ?_) (fun v S' hR => ?_)
 rotate_left
 ·obtain ⟨e, _⟩ := hR
  cases e
 obtain ⟨e, rfl⟩ := hR
 cases e
 have hfz := grid_frz (A := [some (.cells (lineC l))]) (C := C') hsq rfl (.tok (l.gives.length + 1))
 have hc0 : cellsAt (some (.cells (lineC l)) :: (heapR V ++ C')) 0 = some (lineC l) := rfl
 cases hd : diagB (l.gives.length + 2) V
 ·simp only [go_sem, Tryz.f79, Bool.false_and, reduceEqDiff, Nat.reduceBEq, reduceAdd, reduceIte, reduceCtorEq, reduceLeDiff]
  exact ⟨_, rfl, Frz.two hfz (.same _)⟩
 ·simp only [go_sem, builtinA, hc0, List.cons_append, List.nil_append, Tryz.f79, Bool.true_and, reduceEqDiff, Nat.reduceBEq, reduceAdd, reduceIte, reduceCtorEq, reduceLeDiff]
  exact ⟨_, rfl, Frz.two hfz (.same _)⟩
end Go.Av.Fx
end
section
namespace Go.Av.Fx
open Go Go.Av Go.Av.Tb Go.Proofs
open Go.Fw (Sq ent Bd Mat upd row stage upto)
set_option maxHeartbeats 1000000 in
theorem ralike_pc (l : LLine) (h : Lw l) (a b : List Int) (ha : a.length ≤ 1000) (hb : b.length ≤ 1000) (pts : List Int) (hpl : pts.length ≤ 1000) (hp : PtsIn l pts) (off : Int) (ho : 0 ≤ off ∧ off ≤ 20) :
  PC Tryz.prog 104 [lineA l, sl a, sl b, sl pts, .int .i64 off] (.pure (.bool (ralikeB l a b pts off))) := by
 have hm := h.pts
 refine PC.of_empty (AC.run (E_ok _) mix Tryz.func104 m104 rfl rfl rfl (Nat.le_of_ble_eq_true rfl) ?_) (by simp [bndL, AV.bnd]) rfl
 have w1 : IntKind.i64.wrap ((l.gives.length : Int) + 1) = (l.gives.length + 1 : Nat) := wrap64 (by omega)
 have w2 : IntKind.i64.wrap (2 * ((l.gives.length + 1 : Nat) : Int)) = (2 * (l.gives.length + 1) : Nat) := by rw [wrap64 (by omega)]; omega
 have w3 : IntKind.i64.wrap (1 + ((l.gives.length + 1 : Nat) : Int)) = (1 + (l.gives.length + 1) : Nat) := by rw [wrap64 (by omega)]; omega
 have hok := ralike_ok h a b hp ho
 have hraw : ralikeB l a b pts off = diagB (2 * (l.gives.length + 1) + 1) (upto far (2 * (l.gives.length + 1) + 1) (2 * (l.gives.length + 1) + 1) ((ralikeCs l a b pts off).foldl Fw.addc (begM (2 * (l.gives.length + 1) + 1)))) := rfl
 rw [hraw]
 clear hraw
 simp only [go_sem, boxA, builtinA, w1, w2, reduceEqDiff, Nat.reduceBEq, reduceAdd, reduceIte, reduceCtorEq, reduceLeDiff]
 refine cac n120 (begin_ac [some (.cells (lineC l))] (2 * (l.gives.length + 1)) (by omega)) (fun v S' hR => ?_) (fun v S' hR => ?_)
 rotate_left
 ·obtain ⟨e, _⟩ := hR
  cases e
 obtain ⟨e, rfl⟩ := hR
 cases e
 simp only [go_sem, reduceEqDiff, Nat.reduceBEq, reduceAdd, reduceIte, reduceCtorEq, reduceLeDiff]
 have hA := AC.args (args := [.slice (rowsO 1 (2 * (l.gives.length + 1) + 1) (2 * (l.gives.length + 1) + 1)) (2 * (l.gives.length + 1) + 1) (.tok (2 * (l.gives.length + 1))), lineA l, sl a, .int .i64 1]) (gline_ac (C := []) h (A := [some (.cells (lineC l))]) (beg_sq (2 * (l.gives.length + 1) + 1)) rfl a ha (b := 1) (by omega) (by omega) (by omega) (2 * (l.gives.length + 1) + 1) [2 * (l.gives.length + 1)]) (SubL.cons (Sub.unk _ _ _) (SubL.refl _))
 rw [List.append_nil] at hA
 refine cac n121 hA (fun v S' hR => ?_) (fun v S' hR => ?_)
 rotate_left
 ·obtain ⟨e, _⟩ := hR
  cases e
 obtain ⟨e, C1, rfl⟩ := hR
 cases e
 clear hA
 have sq1 := fold_sq (rlineB l a 1) (beg_sq (2 * (l.gives.length + 1) + 1))
 have hB := AC.args (args := [.slice (rowsO 1 (2 * (l.gives.length + 1) + 1) (2 * (l.gives.length + 1) + 1)) (2 * (l.gives.length + 1) + 1) (.tok (2 * (l.gives.length + 1))), lineA l, sl b, .int .i64 (1 + (l.gives.length + 1) : Nat)]) (gline_ac (C := C1) h (A := [some (.cells (lineC l))]) sq1 rfl b hb (b := 1 + (l.gives.length + 1)) (by omega) (by omega) (by omega) (2 * (l.gives.length + 1) + 1) [2 * (l.gives.length + 1)]) (SubL.cons (Sub.unk _ _ _) (SubL.refl _))
 have hc0 : ∀ X, cellsAt (some (.cells (lineC l)) :: X) 0 = some (lineC l) := fun X => rfl
 simp only [go_sem, hc0, List.cons_append, List.nil_append, w3, reduceEqDiff, Nat.reduceBEq, reduceAdd, reduceIte, reduceCtorEq, reduceLeDiff]
 rw [List.cons_append, List.nil_append] at hB
 refine cac n121 hB (fun v S' hR => ?_) (fun v S' hR => ?_)
 rotate_left
 ·obtain ⟨e, _⟩ := hR
  cases e
 obtain ⟨e, C2, rfl⟩ := hR
 cases e
 clear hB
 rw [← List.foldl_append]
 generalize hV2 : (rlineB l a 1 ++ rlineB l b (1 + (l.gives.length + 1))).foldl Fw.addc (begM (2 * (l.gives.length + 1) + 1)) = V2
 have sq2 : Sq (2 * (l.gives.length + 1) + 1) V2 := by rw [← hV2]; exact fold_sq _ (beg_sq _)
 have hend : (ralikeCs l a b pts off).foldl Fw.addc (begM (2 * (l.gives.length + 1) + 1)) = (pts.flatMap (rpairB l off)).foldl Fw.addc V2 := by
  unfold ralikeCs
  rw [List.foldl_append, hV2]
 have hlow := fun i j (hi : i < 2 * (l.gives.length + 1) + 1) (hj : j < 2 * (l.gives.length + 1) + 1) => rl_low hok hi hj
 have hhigh := fun i j (hi : i < 2 * (l.gives.length + 1) + 1) (hj : j < 2 * (l.gives.length + 1) + 1) => rl_high hok hi hj
 rw [hend] at hlow hhigh ⊢
 clear hend hV2 sq1 hok
 rw [List.cons_append, List.nil_append]
 simp only [go_sem, reduceEqDiff, Nat.reduceBEq, reduceAdd, reduceIte, reduceCtorEq, reduceLeDiff]
 refine wc_for pts.length (fun k => [(3, sl pts), (4, .int .i64 off), (11, .int .i64 (l.gives.length + 1 : Nat)), (12, .slice (rowsO 1 (2 * (l.gives.length + 1) + 1) (2 * (l.gives.length + 1) + 1)) (2 * (l.gives.length + 1) + 1) (.tok (2 * (l.gives.length + 1)))), (13, .int .i64 k)]) (fun k => ⟨some (.cells (lineC l)) :: (heapR (((pts.take k).flatMap (rpairB l off)).foldl Fw.addc V2) ++ C2), 2 * (l.gives.length + 1) + 1, [2 * (l.gives.length + 1)]⟩) rfl rfl ?_
 intro k hk I hI
 have sqk := fold_sq ((pts.take k).flatMap (rpairB l off)) sq2
 by_cases h' : k < pts.length
 ·have h1 : (k : Int) < pts.length := by omega
  have h2 : 0 ≤ (k : Int) ∧ (k : Int) < pts.length := by omega
  have h3 : pts[k]? = some pts[k] := List.getElem?_eq_getElem h'
  have h6 : IntKind.i64.wrap ((k : Int) + 1) = (k + 1 : Nat) := wrap64 (by omega)
  have hpk := hp pts[k] (List.getElem_mem h')
  have hn := hI h'
  rw [List.take_succ_eq_append_getElem h', List.flatMap_append, List.foldl_append] at hn
  have e5 : [pts[k]].flatMap (rpairB l off) = rpairB l off pts[k] := by simp
  rw [e5] at hn
  generalize ((pts.take k).flatMap (rpairB l off)).foldl Fw.addc V2 = Vk at *
  generalize pts[k] = p at *
  unfold rpairB at hn
  have v1 : IntKind.i64.wrap (((1 + (l.gives.length + 1) : Nat) : Int) + p) = (1 + (l.gives.length + 1) + p.toNat : Nat) := by rw [wrap64 (by omega)]; omega
  have v2 : IntKind.i64.wrap (1 + p) = (1 + p.toNat : Nat) := by rw [wrap64 (by omega)]; omega
  have v3 : IntKind.i64.wrap (-2 * off) = -2 * off := wrap64 (by omega)
  have v4 : IntKind.i64.wrap (2 * off) = 2 * off := wrap64 (by omega)
  have hD := AC.args (args := [.slice (rowsO 1 (2 * (l.gives.length + 1) + 1) (2 * (l.gives.length + 1) + 1)) (2 * (l.gives.length + 1) + 1) (.tok (2 * (l.gives.length + 1))), .int .i64 (1 + (l.gives.length + 1) + p.toNat : Nat), .int .i64 (1 + p.toNat : Nat), .int .i64 (-2 * off), .int .i64 (2 * off)]) (differ_ac (A := [some (.cells (lineC l))]) (C := C2) sqk rfl (to := 1 + (l.gives.length + 1) + p.toNat) (frm := 1 + p.toNat) (by omega) (by omega) (-2 * off) (2 * off) (by rw [wrap64 (by omega)]; omega) (2 * (l.gives.length + 1) + 1) [2 * (l.gives.length + 1)]) (SubL.cons (Sub.unk _ _ _) (SubL.refl _))
  rw [List.cons_append, List.nil_append] at hD
  simp only [go_sem, l104_0, builtinA, h1, decide_true, h2, ints_get, h3, Option.map_some, w3, v1, v2, v3, v4, reduceEqDiff, Nat.reduceBEq, reduceAdd, reduceIte, reduceCtorEq, reduceLeDiff]
  refine cac n137 hD (fun v S' hR => ?_) (fun v S' hR => ?_)
  ·obtain ⟨e, rfl⟩ := hR
   cases e
   rw [show -(-2 * off) = 2 * off by omega]
   simp only [go_sem, h6, List.cons_append, List.nil_append, reduceEqDiff, Nat.reduceBEq, reduceAdd, reduceIte, reduceCtorEq, reduceLeDiff]
   exact hn
  ·obtain ⟨e, _⟩ := hR
   cases e
 have h1 : ¬ (k : Int) < pts.length := by omega
 have ek : k = pts.length := by omega
 subst ek
 rw [List.take_length] at sqk ⊢
 clear hI hk h'
 generalize (pts.flatMap (rpairB l off)).foldl Fw.addc V2 = V3 at *
 have hcl := gclosed_ac (A := [some (.cells (lineC l))]) (C := C2) (off := 1) sqk (by omega) (by omega) hlow hhigh rfl (2 * (l.gives.length + 1) + 1) [2 * (l.gives.length + 1)]
 have hcl := AC.args (args := [.slice (rowsO 1 (2 * (l.gives.length + 1) + 1) (2 * (l.gives.length + 1) + 1)) (2 * (l.gives.length + 1) + 1) (.tok (2 * (l.gives.length + 1)))]) hcl (SubL.cons (Sub.unk _ _ _) (SubL.refl _))
 rw [List.cons_append, List.nil_append] at hcl
 simp only [go_sem, l104_0, builtinA, h1, decide_false, reduceEqDiff, Nat.reduceBEq, reduceAdd, reduceIte, reduceCtorEq, reduceLeDiff]
 refine cac n122 hcl (fun v S' hR => ?_) (fun v S' hR => ?_)
 rotate_left
 ·obtain ⟨e, _⟩ := hR
  cases e
 obtain ⟨e, rfl⟩ := hR
 cases e
 simp only [go_sem, Tryz.f104, reduceEqDiff, Nat.reduceBEq, reduceAdd, reduceIte, reduceCtorEq, reduceLeDiff]
end Go.Av.Fx
end
section
namespace Go.Proofs
open Go.Shelf
def Tryz.lays156_ren : Go.Shelf.Ren := ⟨fun | 156 => 140 | 165 => 156 | 166 => 157 | 169 => 158 | 240 => 164 | 241 => 165 | 276 => 175 | 277 => 176 | n => n, fun | 31 => 141 | 9 => 9 | 3 => 3 | 4 => 4 | 0 => 0 | 20 => 20 | 72 => 197 | 76 => 201 | 70 => 195 | 37 => 93 | 75 => 200 | 127 => 209 | 164 => 223 | 5 => 5 | 80 => 203 | n => n, fun | n => n⟩
theorem Tryz.lays156 : Go.Proofs.Lays.n156 Tryz.prog Tryz.lays156_ren := {
 mixed := by kernel_rfl
 f156 := Tryz.func140.trans (congrArg some (by kernel_rfl))
 f165 := Tryz.func156.trans (congrArg some (by kernel_rfl))
 f166 := Tryz.func157.trans (congrArg some (by kernel_rfl))
 f169 := Tryz.func158.trans (congrArg some (by kernel_rfl))
 f240 := Tryz.func164.trans (congrArg some (by kernel_rfl))
 f241 := Tryz.func165.trans (congrArg some (by kernel_rfl))
 f276 := Tryz.func175.trans (congrArg some (by kernel_rfl))
 f277 := Tryz.func176.trans (congrArg some (by kernel_rfl))
 t0 := Tryz.underlying0
 a0 := Tryz.isAgg0
 z0 := Tryz.sizeOf0
 v0 := Tryz.zeroValue0
 t3 := Tryz.underlying3
 a3 := Tryz.isAgg3
 z3 := Tryz.sizeOf3
 v3 := Tryz.zeroValue3
 t4 := Tryz.underlying4
 a4 := Tryz.isAgg4
 z4 := Tryz.sizeOf4
 v4 := Tryz.zeroValue4
 t9 := Tryz.underlying9
 a9 := Tryz.isAgg9
 z9 := Tryz.sizeOf9
 v9 := Tryz.zeroValue9
 t20 := Tryz.underlying20
 a20 := Tryz.isAgg20
 z20 := Tryz.sizeOf20
 v20 := Tryz.zeroValue20
 t31 := Tryz.underlying141
 a31 := Tryz.isAgg141
 z31 := Tryz.sizeOf141
 v31 := Tryz.zeroValue141
 t37 := Tryz.underlying93
 a37 := Tryz.isAgg93
 z37 := Tryz.sizeOf93
 v37 := Tryz.zeroValue93
 t70 := Tryz.underlying195
 a70 := Tryz.isAgg195
 z70 := Tryz.sizeOf195
 v70 := Tryz.zeroValue195
 t72 := Tryz.underlying197
 a72 := Tryz.isAgg197
 z72 := Tryz.sizeOf197
 v72 := Tryz.zeroValue197
 t75 := Tryz.underlying200
 a75 := Tryz.isAgg200
 z75 := Tryz.sizeOf200
 v75 := Tryz.zeroValue200
 t76 := Tryz.underlying201
 a76 := Tryz.isAgg201
 z76 := Tryz.sizeOf201
 v76 := Tryz.zeroValue201
 t127 := Tryz.underlying209
 a127 := Tryz.isAgg209
 z127 := Tryz.sizeOf209
 v127 := Tryz.zeroValue209
 t164 := Tryz.underlying223
 a164 := Tryz.isAgg223
 z164 := Tryz.sizeOf223
 v164 := Tryz.zeroValue223 }
theorem Tryz.Builder_Extra_156 : Builder.Extra Tryz.prog Tryz.lays156_ren := {
 sizeBuilder := by kernel_rfl
 liesBuilder := by kernel_rfl
 t5 := Tryz.underlying5
 a5 := Tryz.isAgg5
 z5 := Tryz.sizeOf5
 v5 := Tryz.zeroValue5
 infoByte := by kernel_rfl
 cellsByte := by kernel_rfl
 sizeByte := by kernel_rfl
 neB5 := by decide }
open Go.RowKit in
theorem Tryz.strings_Join_none (a : Option Addr) (c : Nat) (sep : ByteArray) (w : World) :
  Calls Tryz.prog 140 #[.slice a 0 c, .string sep] w fun e w' => e = .returned (.string ⟨#[]⟩) ∧ w' = w := Any.strings_Join_none Tryz.lays156 Tryz.Builder_Extra_156 a c sep w
open Go.RowKit in
theorem Tryz.strings_Join (bk o c : Nat) (xs : List ByteArray) (sep : ByteArray) (w : World) (hcells : ∀ (j : Nat) x, xs[j]? = some x → w.cell? ⟨bk, o + j, none⟩ = some (.string x)) (hbk : bk < w.heap.size) (hN : xs.length ≤ 140737488355328) (hcap : xs.length ≤ c) (hlen : (Lib.join (xs.map (·.data.toList)) sep.data.toList).length ≤ 140737488355328) :
  Calls Tryz.prog 140 #[.slice (some ⟨bk, o, none⟩) xs.length c, .string sep] w fun e w' => e = .returned (.string ⟨(Lib.join (xs.map (·.data.toList)) sep.data.toList).toArray⟩) ∧ Below w.heap.size w w' := Any.strings_Join Tryz.lays156 Tryz.Builder_Extra_156 bk o c xs sep w hcells hbk hN hcap hlen
def Tryz.laysM171_ren : Go.Shelf.Ren := ⟨fun | 171 => 139 | 243 => 155 | 246 => 163 | 283 => 171 | 284 => 172 | 285 => 173 | 286 => 174 | 129 => 182 | 317 => 181 | 318 => 183 | 319 => 184 | 320 => 185 | 337 => 191 | 338 => 192 | n => n, fun | 3 => 3 | 9 => 9 | 2 => 2 | 4 => 4 | 171 => 218 | 0 => 0 | 53 => 215 | 37 => 93 | 5 => 5 | 173 => 221 | 212 => 232 | 51 => 212 | 20 => 20 | 213 => 233 | 46 => 205 | 232 => 241 | 233 => 242 | n => n, fun | 17 => 0 | 18 => 4 | 19 => 5 | n => n⟩
theorem Tryz.laysM171 : Go.Proofs.LaysM.n171 Tryz.prog Tryz.laysM171_ren := {
 mixed := by kernel_rfl
 f129 := Tryz.func182.trans (congrArg some (by kernel_rfl))
 f171 := Tryz.func139.trans (congrArg some (by kernel_rfl))
 f243 := Tryz.func155.trans (congrArg some (by kernel_rfl))
 f246 := Tryz.func163.trans (congrArg some (by kernel_rfl))
 f283 := Tryz.func171.trans (congrArg some (by kernel_rfl))
 f284 := Tryz.func172.trans (congrArg some (by kernel_rfl))
 f285 := Tryz.func173.trans (congrArg some (by kernel_rfl))
 f286 := Tryz.func174.trans (congrArg some (by kernel_rfl))
 f317 := Tryz.func181.trans (congrArg some (by kernel_rfl))
 f318 := Tryz.func183.trans (congrArg some (by kernel_rfl))
 f319 := Tryz.func184.trans (congrArg some (by kernel_rfl))
 f320 := Tryz.func185.trans (congrArg some (by kernel_rfl))
 f337 := Tryz.func191.trans (congrArg some (by kernel_rfl))
 f338 := Tryz.func192.trans (congrArg some (by kernel_rfl))
 t0 := Tryz.underlying0
 a0 := Tryz.isAgg0
 z0 := Tryz.sizeOf0
 v0 := Tryz.zeroValue0
 t2 := Tryz.underlying2
 a2 := Tryz.isAgg2
 z2 := Tryz.sizeOf2
 v2 := Tryz.zeroValue2
 t3 := Tryz.underlying3
 a3 := Tryz.isAgg3
 z3 := Tryz.sizeOf3
 v3 := Tryz.zeroValue3
 t4 := Tryz.underlying4
 a4 := Tryz.isAgg4
 z4 := Tryz.sizeOf4
 v4 := Tryz.zeroValue4
 t5 := Tryz.underlying5
 a5 := Tryz.isAgg5
 z5 := Tryz.sizeOf5
 v5 := Tryz.zeroValue5
 t9 := Tryz.underlying9
 a9 := Tryz.isAgg9
 z9 := Tryz.sizeOf9
 v9 := Tryz.zeroValue9
 t20 := Tryz.underlying20
 a20 := Tryz.isAgg20
 z20 := Tryz.sizeOf20
 v20 := Tryz.zeroValue20
 t37 := Tryz.underlying93
 a37 := Tryz.isAgg93
 z37 := Tryz.sizeOf93
 v37 := Tryz.zeroValue93
 t46 := Tryz.underlying205
 a46 := Tryz.isAgg205
 z46 := Tryz.sizeOf205
 v46 := Tryz.zeroValue205
 t51 := Tryz.underlying212
 a51 := Tryz.isAgg212
 z51 := Tryz.sizeOf212
 v51 := Tryz.zeroValue212
 t53 := Tryz.underlying215
 a53 := Tryz.isAgg215
 z53 := Tryz.sizeOf215
 v53 := Tryz.zeroValue215
 t171 := Tryz.underlying218
 a171 := Tryz.isAgg218
 z171 := Tryz.sizeOf218
 v171 := Tryz.zeroValue218
 t173 := Tryz.underlying221
 a173 := Tryz.isAgg221
 z173 := Tryz.sizeOf221
 v173 := Tryz.zeroValue221
 t212 := Tryz.underlying232
 a212 := Tryz.isAgg232
 z212 := Tryz.sizeOf232
 v212 := Tryz.zeroValue232
 t213 := Tryz.underlying233
 a213 := Tryz.isAgg233
 z213 := Tryz.sizeOf233
 t232 := Tryz.underlying241
 a232 := Tryz.isAgg241
 z232 := Tryz.sizeOf241
 v232 := Tryz.zeroValue241
 t233 := Tryz.underlying242
 a233 := Tryz.isAgg242
 z233 := Tryz.sizeOf242
 v233 := Tryz.zeroValue242
 g17 := by kernel_rfl
 g18 := by kernel_rfl
 g19 := by kernel_rfl
 i0 := by kernel_rfl
 i2 := by kernel_rfl
 i3 := by kernel_rfl
 i4 := by kernel_rfl
 i5 := by kernel_rfl
 i9 := by kernel_rfl
 i20 := by kernel_rfl
 i37 := by kernel_rfl
 i46 := by kernel_rfl
 i51 := by kernel_rfl
 i53 := by kernel_rfl
 i171 := by kernel_rfl
 i173 := by kernel_rfl
 i212 := by kernel_rfl
 i232 := by kernel_rfl
 i233 := by kernel_rfl
 m17 := by kernel_rfl
 m18 := by kernel_rfl
 m19 := by kernel_rfl }
open Go.RowKit Go.Sort Go.Lib in
theorem Tryz.strconv_Itoa (n : Int) (h0 : -9223372036854775808 ≤ n) (h1 : n ≤ 9223372036854775807) (w : World) (htab : Lib.TabIs Tryz.prog w "internal/strconv.uint64pow10" .u64 Lib.pow10Tab) :
  Calls Tryz.prog 139 #[.int .i64 n] w fun e w' => e = .returned (.string ⟨(Lib.itoa n).toArray⟩) ∧ ∃ k os, w' = grow (w.drewN k) os := Any.strconv_Itoa Tryz.laysM171 n h0 h1 w htab
def Tryz.lays143_ren : Go.Shelf.Ren := ⟨fun | 143 => 168 | 219 => 180 | 217 => 187 | 225 => 188 | 224 => 189 | 267 => 190 | 266 => 193 | 314 => 194 | n => n, fun | 9 => 9 | 3 => 3 | 4 => 4 | 5 => 5 | 46 => 205 | 146 => 213 | 51 => 212 | n => n, fun | 1 => 1 | n => n⟩
theorem Tryz.lays143 : Go.Proofs.Lays.n143 Tryz.prog Tryz.lays143_ren := {
 mixed := by kernel_rfl
 f143 := Tryz.func168.trans (congrArg some (by kernel_rfl))
 f217 := Tryz.func187.trans (congrArg some (by kernel_rfl))
 f219 := Tryz.func180.trans (congrArg some (by kernel_rfl))
 f224 := Tryz.func189.trans (congrArg some (by kernel_rfl))
 f225 := Tryz.func188.trans (congrArg some (by kernel_rfl))
 f266 := Tryz.func193.trans (congrArg some (by kernel_rfl))
 f267 := Tryz.func190.trans (congrArg some (by kernel_rfl))
 f314 := Tryz.func194.trans (congrArg some (by kernel_rfl))
 t3 := Tryz.underlying3
 a3 := Tryz.isAgg3
 z3 := Tryz.sizeOf3
 v3 := Tryz.zeroValue3
 t4 := Tryz.underlying4
 a4 := Tryz.isAgg4
 z4 := Tryz.sizeOf4
 v4 := Tryz.zeroValue4
 t5 := Tryz.underlying5
 a5 := Tryz.isAgg5
 z5 := Tryz.sizeOf5
 v5 := Tryz.zeroValue5
 t9 := Tryz.underlying9
 a9 := Tryz.isAgg9
 z9 := Tryz.sizeOf9
 v9 := Tryz.zeroValue9
 t46 := Tryz.underlying205
 a46 := Tryz.isAgg205
 z46 := Tryz.sizeOf205
 v46 := Tryz.zeroValue205
 t51 := Tryz.underlying212
 a51 := Tryz.isAgg212
 z51 := Tryz.sizeOf212
 v51 := Tryz.zeroValue212
 t146 := Tryz.underlying213
 a146 := Tryz.isAgg213
 z146 := Tryz.sizeOf213
 v146 := Tryz.zeroValue213
 g1 := by kernel_rfl }
open Go.RowKit Go.Lib in
theorem Tryz.strings_Index_one (s : ByteArray) (c : UInt8) (w : World) :
  Calls Tryz.prog 168 #[.string s, .string ⟨#[c]⟩] w fun e w' => e = .returned (.int .i64 (Lib.indexByte s.data.toList c)) ∧ w' = w := Any.strings_Index_one Tryz.lays143 s c w
def Tryz.lays138_ren : Go.Shelf.Ren := ⟨fun | 138 => 167 | 195 => 177 | 218 => 179 | 143 => 168 | 219 => 180 | 217 => 187 | 225 => 188 | 224 => 189 | 267 => 190 | 266 => 193 | 314 => 194 | n => n, fun | 9 => 9 | 3 => 3 | 4 => 4 | 5 => 5 | 0 => 0 | 46 => 205 | 146 => 213 | 51 => 212 | n => n, fun | 1 => 1 | n => n⟩
theorem Tryz.lays138 : Go.Proofs.Lays.n138 Tryz.prog Tryz.lays138_ren := {
 mixed := by kernel_rfl
 f138 := Tryz.func167.trans (congrArg some (by kernel_rfl))
 f143 := Tryz.func168.trans (congrArg some (by kernel_rfl))
 f195 := Tryz.func177.trans (congrArg some (by kernel_rfl))
 f217 := Tryz.func187.trans (congrArg some (by kernel_rfl))
 f218 := Tryz.func179.trans (congrArg some (by kernel_rfl))
 f219 := Tryz.func180.trans (congrArg some (by kernel_rfl))
 f224 := Tryz.func189.trans (congrArg some (by kernel_rfl))
 f225 := Tryz.func188.trans (congrArg some (by kernel_rfl))
 f266 := Tryz.func193.trans (congrArg some (by kernel_rfl))
 f267 := Tryz.func190.trans (congrArg some (by kernel_rfl))
 f314 := Tryz.func194.trans (congrArg some (by kernel_rfl))
 t0 := Tryz.underlying0
 a0 := Tryz.isAgg0
 z0 := Tryz.sizeOf0
 v0 := Tryz.zeroValue0
 t3 := Tryz.underlying3
 a3 := Tryz.isAgg3
 z3 := Tryz.sizeOf3
 v3 := Tryz.zeroValue3
 t4 := Tryz.underlying4
 a4 := Tryz.isAgg4
 z4 := Tryz.sizeOf4
 v4 := Tryz.zeroValue4
 t5 := Tryz.underlying5
 a5 := Tryz.isAgg5
 z5 := Tryz.sizeOf5
 v5 := Tryz.zeroValue5
 t9 := Tryz.underlying9
 a9 := Tryz.isAgg9
 z9 := Tryz.sizeOf9
 v9 := Tryz.zeroValue9
 t46 := Tryz.underlying205
 a46 := Tryz.isAgg205
 z46 := Tryz.sizeOf205
 v46 := Tryz.zeroValue205
 t51 := Tryz.underlying212
 a51 := Tryz.isAgg212
 z51 := Tryz.sizeOf212
 v51 := Tryz.zeroValue212
 t146 := Tryz.underlying213
 a146 := Tryz.isAgg213
 z146 := Tryz.sizeOf213
 v146 := Tryz.zeroValue213
 g1 := by kernel_rfl }
open Go.RowKit Go.Lib in
theorem Tryz.strings_Count_one (s : ByteArray) (c : UInt8) (w : World) :
  Calls Tryz.prog 167 #[.string s, .string ⟨#[c]⟩] w fun e w' => e = .returned (.int .i64 (Lib.countByte s.data.toList c)) ∧ w' = w := Any.strings_Count_one Tryz.lays138 s c w
def Tryz.lays99_ren : Go.Shelf.Ren := ⟨fun | 99 => 145 | 206 => 160 | n => n, fun | 9 => 9 | 4 => 4 | 3 => 3 | n => n, fun | n => n⟩
theorem Tryz.lays99 : Go.Proofs.Lays.n99 Tryz.prog Tryz.lays99_ren := {
 mixed := by kernel_rfl
 f99 := Tryz.func145.trans (congrArg some (by kernel_rfl))
 f206 := Tryz.func160.trans (congrArg some (by kernel_rfl))
 t3 := Tryz.underlying3
 a3 := Tryz.isAgg3
 z3 := Tryz.sizeOf3
 v3 := Tryz.zeroValue3
 t4 := Tryz.underlying4
 a4 := Tryz.isAgg4
 z4 := Tryz.sizeOf4
 v4 := Tryz.zeroValue4
 t9 := Tryz.underlying9
 a9 := Tryz.isAgg9
 z9 := Tryz.sizeOf9
 v9 := Tryz.zeroValue9 }
open Go.RowKit Go.Lib in
theorem Tryz.strings_HasPrefix (s p : ByteArray) (w : World) :
  Calls Tryz.prog 145 #[.string s, .string p] w fun e w' => e = .returned (.bool (Lib.hasPrefix s.data.toList p.data.toList)) ∧ w' = w := Any.strings_HasPrefix Tryz.lays99 s p w
def Tryz.lays221_ren : Go.Shelf.Ren := ⟨fun | 221 => 159 | 268 => 166 | 138 => 167 | 143 => 168 | 195 => 177 | 197 => 178 | 218 => 179 | 219 => 180 | 260 => 186 | 217 => 187 | 225 => 188 | 224 => 189 | 267 => 190 | 266 => 193 | 314 => 194 | n => n, fun | 9 => 9 | 3 => 3 | 31 => 141 | 4 => 4 | 0 => 0 | 105 => 227 | 21 => 21 | 5 => 5 | 46 => 205 | 119 => 236 | 139 => 239 | 138 => 238 | 146 => 213 | 51 => 212 | n => n, fun | 1 => 1 | 3 => 2 | 4 => 3 | n => n⟩
theorem Tryz.lays221 : Go.Proofs.Lays.n221 Tryz.prog Tryz.lays221_ren := {
 mixed := by kernel_rfl
 f138 := Tryz.func167.trans (congrArg some (by kernel_rfl))
 f143 := Tryz.func168.trans (congrArg some (by kernel_rfl))
 f195 := Tryz.func177.trans (congrArg some (by kernel_rfl))
 f197 := Tryz.func178.trans (congrArg some (by kernel_rfl))
 f217 := Tryz.func187.trans (congrArg some (by kernel_rfl))
 f218 := Tryz.func179.trans (congrArg some (by kernel_rfl))
 f219 := Tryz.func180.trans (congrArg some (by kernel_rfl))
 f221 := Tryz.func159.trans (congrArg some (by kernel_rfl))
 f224 := Tryz.func189.trans (congrArg some (by kernel_rfl))
 f225 := Tryz.func188.trans (congrArg some (by kernel_rfl))
 f260 := Tryz.func186.trans (congrArg some (by kernel_rfl))
 f266 := Tryz.func193.trans (congrArg some (by kernel_rfl))
 f267 := Tryz.func190.trans (congrArg some (by kernel_rfl))
 f268 := Tryz.func166.trans (congrArg some (by kernel_rfl))
 f314 := Tryz.func194.trans (congrArg some (by kernel_rfl))
 t0 := Tryz.underlying0
 a0 := Tryz.isAgg0
 z0 := Tryz.sizeOf0
 v0 := Tryz.zeroValue0
 t3 := Tryz.underlying3
 a3 := Tryz.isAgg3
 z3 := Tryz.sizeOf3
 v3 := Tryz.zeroValue3
 t4 := Tryz.underlying4
 a4 := Tryz.isAgg4
 z4 := Tryz.sizeOf4
 v4 := Tryz.zeroValue4
 t5 := Tryz.underlying5
 a5 := Tryz.isAgg5
 z5 := Tryz.sizeOf5
 v5 := Tryz.zeroValue5
 t9 := Tryz.underlying9
 a9 := Tryz.isAgg9
 z9 := Tryz.sizeOf9
 v9 := Tryz.zeroValue9
 t21 := Tryz.underlying21
 a21 := Tryz.isAgg21
 z21 := Tryz.sizeOf21
 v21 := Tryz.zeroValue21
 t31 := Tryz.underlying141
 a31 := Tryz.isAgg141
 z31 := Tryz.sizeOf141
 v31 := Tryz.zeroValue141
 t46 := Tryz.underlying205
 a46 := Tryz.isAgg205
 z46 := Tryz.sizeOf205
 v46 := Tryz.zeroValue205
 t51 := Tryz.underlying212
 a51 := Tryz.isAgg212
 z51 := Tryz.sizeOf212
 v51 := Tryz.zeroValue212
 t105 := Tryz.underlying227
 a105 := Tryz.isAgg227
 z105 := Tryz.sizeOf227
 v105 := Tryz.zeroValue227
 t119 := Tryz.underlying236
 a119 := Tryz.isAgg236
 z119 := Tryz.sizeOf236
 t138 := Tryz.underlying238
 a138 := Tryz.isAgg238
 z138 := Tryz.sizeOf238
 v138 := Tryz.zeroValue238
 t139 := Tryz.underlying239
 a139 := Tryz.isAgg239
 z139 := Tryz.sizeOf239
 v139 := Tryz.zeroValue239
 t146 := Tryz.underlying213
 a146 := Tryz.isAgg213
 z146 := Tryz.sizeOf213
 v146 := Tryz.zeroValue213
 g1 := by kernel_rfl
 g3 := by kernel_rfl
 g4 := by kernel_rfl }
end Go.Proofs
end
section
namespace Go.Av
open Go Go.Proofs Go.RowKit Go.Sort
theorem Chg.below {w w' : World} (h : Below w.heap.size w w') : Chg w w' (fun _ _ => False) (fun _ => False) := by
  have cell : ∀ b o v, w.cell? ⟨b, o, none⟩ = some v → w'.cell? ⟨b, o, none⟩ = some v := fun b o v e => by
    have hb := cell?_isSome_lt e
    unfold World.cell? at e ⊢
    rw [h.block b hb]; exact e
  refine ⟨fun b o v e _ => cell b o v e, fun b o v e => ⟨v, cell b o v e⟩, fun b o hb => ?_, fun b ob e _ _ => ?_, h.size, fun b x e => ?_, ⟨h.os, h.output, fun b cs t fr e => ⟨cs, by rw [h.block b (Array.getElem?_eq_some_iff.1 e).1]; exact e, rfl⟩⟩⟩
  · unfold World.frozen?; rw [h.block b hb]
  · rw [h.block b (Array.getElem?_eq_some_iff.1 e).1]; exact e
  · have hb : b < w.heap.size := by
      rcases Nat.lt_or_ge b w.heap.size with h' | h'
      · exact h'
      · unfold World.shape? at e; rw [Array.getElem?_eq_none h'] at e; cases e
    unfold World.shape? at e ⊢
    rw [h.block b hb]; exact e
theorem StRel.below {c : Cx} {S : St} {w w' : World} (h : StRel c S w) (hb : Below w.heap.size w w') : StRel c S w' :=
  h.chg (Chg.below hb) (fun _ _ e => e.elim) (fun _ e => e.elim) (fun _ _ _ _ _ => ⟨fun _ _ e => e, fun _ e => e⟩)
theorem StRel.grow {c : Cx} {S : St} {w : World} (h : StRel c S w) (k : Nat) (os : Array Obj) : StRel c S (grow (w.drewN k) os) := by
  have h0 : (w.drewN k).heap = w.heap := rfl
  have hb : ∀ b, b < w.heap.size → (Go.Sort.grow (w.drewN k) os).heap[b]? = w.heap[b]? := fun b hb => by
    show (w.heap ++ os)[b]? = _
    exact Array.getElem?_append_left hb
  have cell : ∀ b o v, w.cell? ⟨b, o, none⟩ = some v → (Go.Sort.grow (w.drewN k) os).cell? ⟨b, o, none⟩ = some v := fun b o v e => by
    have hl := cell?_isSome_lt e
    unfold World.cell? at e ⊢
    rw [hb b hl]; exact e
  refine h.chg (R := fun _ _ => False) (RO := fun _ => False) ⟨fun b o v e _ => cell b o v e, fun b o v e => ⟨v, cell b o v e⟩, fun b o hl => ?_, fun b ob e _ _ => ?_, ?_, fun b x e => ?_, ⟨rfl, rfl, fun b cs t fr e => ⟨cs, by rw [hb b (Array.getElem?_eq_some_iff.1 e).1]; exact e, rfl⟩⟩⟩ (fun _ _ e => e.elim) (fun _ e => e.elim) (fun _ _ _ _ _ => ⟨fun _ _ e => e, fun _ e => e⟩)
  · unfold World.frozen?; rw [hb b hl]
  · rw [hb b (Array.getElem?_eq_some_iff.1 e).1]; exact e
  · show w.heap.size ≤ (w.heap ++ os).size
    simp
  · have hl : b < w.heap.size := by
      rcases Nat.lt_or_ge b w.heap.size with h' | h'
      · exact h'
      · unfold World.shape? at e; rw [Array.getElem?_eq_none h'] at e; cases e
    unfold World.shape? at e ⊢
    rw [hb b hl]; exact e
theorem StRel.tabIs {c : Cx} {S : St} {w : World} (h : StRel c S w) : Lib.TabIs Tryz.prog w "internal/strconv.uint64pow10" .u64 Lib.pow10Tab := by
  have hg : Tryz.prog.globalNamed "internal/strconv.uint64pow10" = some tabB := by kernel_rfl
  obtain ⟨t, ht⟩ := h.tsh
  unfold Lib.TabIs World.var?
  rw [hg]
  unfold World.shape? at ht
  show (match w.heap[tabB]? with | some (.cells cs _ _) => some cs | _ => none) = _
  cases hw : w.heap[tabB]? with
  | none => rw [hw] at ht; cases ht
  | some ob =>
    rw [hw] at ht
    cases ob <;> simp at ht ⊢
    rename_i cs e f
    obtain ⟨_, hs⟩ := ht
    apply Array.ext
    · simp [hs, Lib.pow10Tab]
    · intro i h1 h2
      have hi : i < 20 := hs ▸ h1
      have hk := h.K _ _ _ (h.tab i hi)
      unfold World.cell? at hk
      simp only [hw] at hk
      simp at hk
      rw [Array.getElem?_eq_getElem h1] at hk
      simp only [Option.some.injEq] at hk
      rw [hk]
      simp [tabV, Lib.pow10Tab]
theorem VRel.of_str {c : Cx} {s : ByteArray} {x : Value} (h : VRel c (.str s) x) : x = .string s := by cases h; rfl
theorem VRel.of_int {c : Cx} {k : IntKind} {n : Int} {x : Value} (h : VRel c (.int k n) x) : x = .int k n := by cases h; rfl
theorem LRel.one {c : Cx} {x : AV} {vs : List Value} (h : LRel c [x] vs) : ∃ v, vs = [v] ∧ VRel c x v := by
  obtain ⟨v, vs', rfl, h1, h2⟩ := h.tail
  cases vs' with
  | nil => exact ⟨v, rfl, h1⟩
  | cons a b => simp [LRel] at h2
theorem LRel.two {c : Cx} {x y : AV} {vs : List Value} (h : LRel c [x, y] vs) : ∃ u v, vs = [u, v] ∧ VRel c x u ∧ VRel c y v := by
  obtain ⟨u, vs', rfl, h1, h2⟩ := h.tail
  obtain ⟨v, rfl, h3⟩ := h2.one
  exact ⟨u, v, rfl, h1, h3⟩
theorem LRel.four {c : Cx} {a b x y : AV} {vs : List Value} (h : LRel c [a, b, x, y] vs) : ∃ t s u v, vs = [t, s, u, v] ∧ VRel c a t ∧ VRel c b s ∧ VRel c x u ∧ VRel c y v := by
  obtain ⟨t, vs', rfl, h1, h2⟩ := h.tail
  obtain ⟨s, vs'', rfl, h3, h4⟩ := h2.tail
  obtain ⟨u, v, rfl, h5, h6⟩ := h4.two
  exact ⟨t, s, u, v, rfl, h1, h3, h5, h6⟩
def itoaB (n : Int) : ByteArray := ⟨(Lib.itoa n).toArray⟩
theorem Itoa_pc (n : Int) (h0 : -9223372036854775808 ≤ n) (h1 : n ≤ 9223372036854775807) : PC Tryz.prog 139 [.int .i64 n] (.pure (.str (itoaB n))) := by
  intro c S w vs hs hl
  obtain ⟨v, rfl, hv⟩ := hl.one
  cases hv.of_int
  refine (Tryz.strconv_Itoa n h0 h1 w hs.tabIs).mono ?_
  rintro e w' ⟨rfl, k, os, rfl⟩
  exact ⟨_, rfl, c, Cx.le.refl c, rfl, rfl, hs.grow k os, .str _⟩
theorem HasPrefix_pc (s p : ByteArray) : PC Tryz.prog 145 [.str s, .str p] (.pure (.bool (Lib.hasPrefix s.data.toList p.data.toList))) := by
  intro c S w vs hs hl
  obtain ⟨u, v, rfl, hu, hv⟩ := hl.two
  cases hu.of_str; cases hv.of_str
  refine (Tryz.strings_HasPrefix s p w).mono ?_
  rintro e w' ⟨rfl, rfl⟩
  exact ⟨_, rfl, Post.same hs (.bool _)⟩
def joinB (xs : List ByteArray) (sep : ByteArray) : ByteArray := ⟨(Lib.join (xs.map (·.data.toList)) sep.data.toList).toArray⟩
theorem Join_pc (xs : List ByteArray) (sep : ByteArray) (t : Tail) (hN : xs.length ≤ 140737488355328) (hlen : (Lib.join (xs.map (·.data.toList)) sep.data.toList).length ≤ 140737488355328) :
    PC Tryz.prog 140 [.slice (xs.map AV.str) xs.length t, .str sep] (.pure (.str (joinB xs sep))) := by
  intro c S w vs hs hl
  obtain ⟨u, v, rfl, hu, hv⟩ := hl.two
  cases hv.of_str
  generalize hL : xs.map AV.str = L at hu
  generalize hn : xs.length = n at hu hN
  cases hu with
  | sliceNil _ ht =>
    have : xs = [] := List.eq_nil_of_length_eq_zero hn
    subst this
    refine (Tryz.strings_Join_none none 0 sep w).mono ?_
    rintro e w' ⟨rfl, rfl⟩
    exact ⟨_, rfl, Post.same hs (.str _)⟩
  | slice _ _ _ b off cap us hc hk hr he ht =>
    subst hL
    by_cases h0 : xs = []
    · subst h0
      cases hn
      refine (Tryz.strings_Join_none _ _ sep w).mono ?_
      rintro e w' ⟨rfl, rfl⟩
      exact ⟨_, rfl, Post.same hs (.str _)⟩
    have hcells : ∀ (j : Nat) x, xs[j]? = some x → w.cell? ⟨b, off + j, none⟩ = some (.string x) := by
      intro j x hx
      have hj : j < xs.length := by
        rcases Nat.lt_or_ge j xs.length with h' | h'
        · exact h'
        · rw [List.getElem?_eq_none h'] at hx; cases hx
      have h1 := hr j (.str x) (by rw [List.getElem?_map, hx]; rfl)
      have h2 := h1.of_str
      have h3 := hs.K _ _ _ (hk j (by simpa using hj))
      rw [h2] at h3; exact h3
    have hpos : 0 < xs.length := List.length_pos_iff.2 h0
    have hb : b < w.heap.size := cell?_isSome_lt (hcells 0 xs[0] (List.getElem?_eq_getElem hpos))
    subst hn
    refine (Tryz.strings_Join b off cap xs sep w hcells hb hN hc hlen).mono ?_
    rintro e w' ⟨rfl, hw⟩
    exact ⟨_, rfl, c, Cx.le.refl c, rfl, rfl, hs.below hw, .str _⟩
def splitL (s : ByteArray) (c : UInt8) : List ByteArray := Lib.splitB ⟨#[c]⟩ 0 (Lib.countB s ⟨#[c]⟩) s
theorem genSplit_pc (s : ByteArray) (b : UInt8) (hs : s.size < 4294967281) : PC Tryz.prog 159 [.str s, .str ⟨#[b]⟩, .int .i64 0, .int .i64 (-1)] (.pure (.slice ((splitL s b).map AV.str) (splitL s b).length .exact)) := by
  intro c S w vs hst hl
  obtain ⟨v1, v2, v3, v4, rfl, h1, h2, h3, h4⟩ := hl.four
  cases h1.of_str; cases h2.of_str; cases h3.of_int; cases h4.of_int
  have hle := Lib.countB_le ⟨#[b]⟩ (Nat.le_refl 1) s.size s (Nat.le_refl _)
  have hlen := Lib.splitB_all ⟨#[b]⟩ (Nat.le_refl 1) 0 _ s rfl
  have c1 := Any.strings_genSplit_core Tryz.lays221 (by kernel_rfl) s ⟨#[b]⟩ 0 (-1) (Lib.countB s ⟨#[b]⟩ + 1) w hs (Nat.le_refl 1) (Nat.zero_le _)
    (fun x cc hx => by
      have h := Tryz.strings_Index_one x b (w.alloc (.cells cc 9))
      rw [← Lib.index_one] at h
      exact h)
    (by have h := Tryz.strings_Count_one s b w
        unfold Lib.countByte at h
        rw [← Lib.count_one] at h
        exact h) (by decide) (by decide) (by rw [if_pos (by decide)]; omega)
  rw [Nat.add_sub_cancel, hlen] at c1
  refine Calls.mono c1 ?_
  rintro e w' ⟨rfl, rfl⟩
  refine ⟨_, rfl, ?_⟩
  have e2 : Lib.cellsOf (Lib.splitB ⟨#[b]⟩ 0 (Lib.countB s ⟨#[b]⟩) s) (Lib.countB s ⟨#[b]⟩ + 1) = ((splitL s b).map Value.string).toArray := by rw [← hlen]; exact Lib.cellsOf_full _
  rw [e2]
  have hln : Lib.countB s ⟨#[b]⟩ + 1 = (splitL s b).length := hlen.symm
  rw [hln]
  exact Post.newImm hst (l := (splitL s b).map AV.str) (arr := ((splitL s b).map Value.string).toArray) 9 ⟨by simp, fun j x v e1 e2 => by
    simp only [List.getElem?_map] at e1 e2
    cases hj : (splitL s b)[j]? with
    | none => rw [hj] at e1; cases e1
    | some y => rw [hj] at e1 e2; cases e1; cases e2; exact .str _⟩ _
end Go.Av
end
section
namespace Go.Av.Fx
open Go Go.Av Go.Av.Tb Go.Proofs
def meths (t : TypeId) (s : String) : Option FuncId := if s = "quinaria/leak.numbers" then (if t = 167 then some 210 else if t = 168 then some 211 else if t = 170 then some 212 else none) else none
theorem meths_ok : ∀ t name f, meths t name = some f → ∀ v w, (Go.method (Tryz.prog.types.size + Made.depth) t v name).run Tryz.prog w = Result.ok (f, v) w := by
 intro t name f h v w
 unfold meths at h
 split at h
 ·rename_i e; subst e
  split at h
  ·rename_i e; subst e; cases h; kernel_rfl
  split at h
  ·rename_i e; subst e; cases h; kernel_rfl
  split at h
  ·rename_i e; subst e; cases h; kernel_rfl
  ·cases h
 ·cases h
noncomputable def Em (n : Nat) : Env := { E n with M := meths }
theorem Em_ok (n : Nat) : (Em n).Ok := ⟨(E_ok n).T, meths_ok, (E_ok n).Cle, (E_ok n).Y⟩
@[go_sem] theorem Em_T (n : Nat) : (Em n).T = T := rfl
@[go_sem] theorem Em_P (n : Nat) : (Em n).P = Tryz.prog := rfl
@[go_sem] theorem Em_M (n : Nat) : (Em n).M = meths := rfl
@[go_sem] theorem ta168_0 (v : AV) : typeAssertA T (.iface 167 v) 168 true = some (.tuple [.int .i64 0, .bool false]) := rfl
@[go_sem] theorem ta168_1 (v : AV) : typeAssertA T (.iface 168 v) 168 true = some (.tuple [v, .bool true]) := rfl
@[go_sem] theorem ta168_2 (v : AV) : typeAssertA T (.iface 170 v) 168 true = some (.tuple [.int .i64 0, .bool false]) := rfl
@[go_sem] theorem ta170_0 (v : AV) : typeAssertA T (.iface 167 v) 170 true = some (.tuple [.agg [.int .i64 0, .int .i64 0, .int .i64 0], .bool false]) := rfl
@[go_sem] theorem ta170_2 (v : AV) : typeAssertA T (.iface 170 v) 170 true = some (.tuple [v, .bool true]) := rfl
@[go_sem] theorem ix181_0 (a b c : AV) : indexA T 181 (.agg [a, b, c]) (.int .i64 0) = some a := rfl
@[go_sem] theorem ix181_1 (a b c : AV) : indexA T 181 (.agg [a, b, c]) (.int .i64 1) = some b := rfl
@[go_sem] theorem ix181_2 (a b c : AV) : indexA T 181 (.agg [a, b, c]) (.int .i64 2) = some c := rfl
def wordB (k : Nat) : ByteArray := [⟨#[108, 105, 110, 101]⟩, ⟨#[115, 116, 114, 101, 116, 99, 104]⟩, ⟨#[99, 111, 117, 110, 116]⟩].getD k ByteArray.empty
theorem words_pc : PC Tryz.prog 146 [] (.pure (.agg [.str (wordB 0), .str (wordB 1), .str (wordB 2)])) := by
 refine PC.of_empty (AC.run (E_ok _) mix Tryz.func146 m146 rfl rfl rfl (Nat.le_of_ble_eq_true rfl) ?_) rfl rfl
 have hb : buildA T 181 [(0, AV.str ⟨#[108, 105, 110, 101]⟩), (1, AV.str ⟨#[115, 116, 114, 101, 116, 99, 104]⟩), (2, AV.str ⟨#[99, 111, 117, 110, 116]⟩)] = some (.agg [.str (wordB 0), .str (wordB 1), .str (wordB 2)]) := by rfl
 simp only [go_sem, hb, Tryz.f146, reduceEqDiff, Nat.reduceBEq, reduceAdd, reduceIte, reduceCtorEq, reduceLeDiff]
theorem head_pc (l : LLine) : PC Tryz.prog 210 [.agg (lineC l)] (.pure (.slice [.int .i64 l.least, .int .i64 l.most, .int .i64 l.taps] 3 .exact)) := by
 refine PC.of_empty (AC.run (E_ok _) mix Tryz.func210 m210 rfl rfl rfl (Nat.le_of_ble_eq_true rfl) ?_) (by simp [bndL, AV.bnd]) rfl
 simp only [go_sem, boxA, Tryz.f210, reduceEqDiff, Nat.reduceBEq, reduceAdd, reduceIte, reduceCtorEq, reduceLeDiff]
theorem stretch_pc (n : Int) : PC Tryz.prog 211 [.int .i64 n] (.pure (.slice [.int .i64 n] 1 .exact)) := by
 refine PC.of_empty (AC.run (E_ok _) mix Tryz.func211 m211 rfl rfl rfl (Nat.le_of_ble_eq_true rfl) ?_) (by simp [bndL, AV.bnd]) rfl
 simp only [go_sem, boxA, Tryz.f211, reduceEqDiff, Nat.reduceBEq, reduceAdd, reduceIte, reduceCtorEq, reduceLeDiff]
theorem count_pc (c : Cnt) : PC Tryz.prog 212 [.agg [.int .i64 c.point, .int .i64 c.low, .int .i64 c.high]] (.pure (.slice [.int .i64 c.point, .int .i64 c.low, .int .i64 c.high] 3 .exact)) := by
 refine PC.of_empty (AC.run (E_ok _) mix Tryz.func212 m212 rfl rfl rfl (Nat.le_of_ble_eq_true rfl) ?_) (by simp [bndL, AV.bnd]) rfl
 simp only [go_sem, boxA, Tryz.f212, reduceEqDiff, Nat.reduceBEq, reduceAdd, reduceIte, reduceCtorEq, reduceLeDiff]
inductive Ent where
 | head (l : LLine)
 | stretch (n : Int)
 | count (c : Cnt)
def Ent.av : Ent → AV
 | .head l => .iface 167 (.agg (lineC l))
 | .stretch n => .iface 168 (.int .i64 n)
 | .count c => .iface 170 (.agg (cntC c))
def Ent.k : Ent → Nat
 | .head _ => 0
 | .stretch _ => 1
 | .count _ => 2
def Ent.ns : Ent → List Int
 | .head l => [l.least, l.most, l.taps]
 | .stretch n => [n]
 | .count c => [c.point, c.low, c.high]
def i64 (n : Int) : Prop := -9223372036854775808 ≤ n ∧ n ≤ 9223372036854775807
def sp : ByteArray := ⟨#[32]⟩
def rowN (o : ByteArray) (ns : List Int) : ByteArray := ns.foldl (fun o n => o ++ (sp ++ itoaB n)) o
def rowB (k : Nat) (ns : List Int) : ByteArray := rowN (wordB k) ns
@[go_sem] theorem meths0 : meths 167 "quinaria/leak.numbers" = some 210 := rfl
@[go_sem] theorem meths1 : meths 168 "quinaria/leak.numbers" = some 211 := rfl
@[go_sem] theorem meths2 : meths 170 "quinaria/leak.numbers" = some 212 := rfl
theorem itoaB_size {n : Int} (h : i64 n) : (itoaB n).size ≤ 21 := by
 have := Lib.itoa_length_le n h.1 h.2
 simpa [itoaB, ByteArray.size] using this
theorem rowN_size : ∀ (ns : List Int) (o : ByteArray), (∀ n ∈ ns, i64 n) → (rowN o ns).size ≤ o.size + 22 * ns.length
 | [], o, _ => Nat.le_refl _
 | n :: ns, o, h => by
  have h1 := rowN_size ns (o ++ (sp ++ itoaB n)) fun m hm => h m (List.mem_cons_of_mem _ hm)
  have h2 := itoaB_size (h n List.mem_cons_self)
  have h3 : (o ++ (sp ++ itoaB n)).size = o.size + (1 + (itoaB n).size) := by rw [ByteArray.size_append, ByteArray.size_append]; rfl
  show (rowN (o ++ (sp ++ itoaB n)) ns).size ≤ _
  simp only [List.length_cons]; omega
theorem rowN_take (o : ByteArray) (ns : List Int) (k : Nat) (h : k < ns.length) : rowN o (ns.take (k + 1)) = rowN o (ns.take k) ++ (sp ++ itoaB ns[k]) := by
 unfold rowN
 rw [List.take_add_one, List.getElem?_eq_getElem h, List.foldl_append]
 rfl
theorem wordB_size (k : Nat) : (wordB k).size ≤ 7 := by
 match k with
 | 0 => decide
 | 1 => decide
 | 2 => decide
 | k + 3 => simp [wordB]
theorem addS {a b : ByteArray} (h : a.size + b.size ≤ 4611686018427387904) : binA T .add 9 (.str a) (.str b) = some (.str (a ++ b)) := by
 show (if a.size + b.size ≤ 4611686018427387904 then some (AV.str (a ++ b)) else none) = _
 rw [if_pos h]
theorem row_loop (kk : Nat) (ns : List Int) (hn : ns.length ≤ 3) (h : ∀ n ∈ ns, i64 n) (Q : AQ)
  (hQ : Q (.exit 1) [(4, .str (rowB kk ns)), (18, .slice (ints ns) ns.length .exact), (19, .int .i64 ns.length), (20, .int .i64 ns.length), (21, .bool false)] St.empty) :
  WC (Em 31) (.loop l138_0) Q [(4, .str (wordB kk)), (18, .slice (ints ns) ns.length .exact), (19, .int .i64 ns.length), (20, .int .i64 0)] St.empty := by
 refine wc_for ns.length (fun k => [(4, .str (rowN (wordB kk) (ns.take k))), (18, .slice (ints ns) ns.length .exact), (19, .int .i64 ns.length), (20, .int .i64 k)]) (fun _ => St.empty) rfl rfl ?_
 intro k hk I hI
 by_cases h' : k < ns.length
 ·have h1 : (k : Int) < ns.length := by omega
  have h2 : 0 ≤ (k : Int) ∧ (k : Int) < ns.length := by omega
  have h3 : ns[k]? = some ns[k] := List.getElem?_eq_getElem h'
  have h4 : IntKind.i64.wrap ((k : Int) + 1) = (k + 1 : Nat) := wrap64 (by omega)
  have hm := h _ (List.getElem_mem h')
  have h5 := itoaB_size hm
  have h6 := rowN_size (ns.take k) (wordB kk) fun m hm => h m (List.mem_of_mem_take hm)
  have h7 := wordB_size kk
  have h8 : (ns.take k).length ≤ 3 := by simp; omega
  have h9 : sp.size + (itoaB ns[k]).size ≤ 4611686018427387904 := by show 1 + _ ≤ _; omega
  have h10 : (rowN (wordB kk) (ns.take k)).size + (sp ++ itoaB ns[k]).size ≤ 4611686018427387904 := by rw [ByteArray.size_append]; show _ + (1 + _) ≤ _; omega
  simp only [go_sem, l138_0, builtinA, h1, decide_true, h2, ints_get, h3, reduceEqDiff, Nat.reduceBEq, reduceAdd, reduceIte, reduceCtorEq, reduceLeDiff]
  refine call_pure (E := Em _) n139 (Itoa_pc _ hm.1 hm.2) (SubL.refl _) ?_
  have h11 : binA T .add 9 (.str ⟨#[32]⟩) (.str (itoaB ns[k])) = some (.str (sp ++ itoaB ns[k])) := addS h9
  have h12 := addS h10
  simp only [go_sem, h11, h12, h4, reduceEqDiff, Nat.reduceBEq, reduceAdd, reduceIte, reduceCtorEq, reduceLeDiff]
  have := hI h'
  rw [rowN_take _ _ _ h'] at this
  exact this
 ·have h1 : ¬ (k : Int) < ns.length := by omega
  have e : k = ns.length := by omega
  subst e
  simp only [go_sem, l138_0, builtinA, h1, decide_false, List.take_length, reduceEqDiff, Nat.reduceBEq, reduceAdd, reduceIte, reduceCtorEq, reduceLeDiff]
  exact hQ
theorem row_pc (e : Ent) (h : ∀ n ∈ e.ns, i64 n) : PC Tryz.prog 138 [e.av] (.pure (.str (rowB e.k e.ns))) := by
 refine PC.of_empty (AC.run (Em_ok _) mix Tryz.func138 m138 rfl rfl rfl (Nat.le_of_ble_eq_true rfl) ?_) (by cases e <;> simp [bndL, AV.bnd, Ent.av]) rfl
 cases e with
 | head l =>
  simp only [go_sem, Ent.av, extractA, reduceEqDiff, Nat.reduceBEq, reduceAdd, reduceIte, reduceCtorEq, reduceLeDiff]
  refine call_pure (E := Em _) n146 words_pc (SubL.refl _) ?_
  simp only [go_sem, Ent.av, extractA, reduceEqDiff, Nat.reduceBEq, reduceAdd, reduceIte, reduceCtorEq, reduceLeDiff]
  refine call_pure (E := Em _) n210 (head_pc l) (SubL.refl _) ?_
  simp only [go_sem, Ent.av, extractA, builtinA, reduceEqDiff, Nat.reduceBEq, reduceAdd, reduceIte, reduceCtorEq, reduceLeDiff]
  refine row_loop 0 [l.least, l.most, l.taps] (Nat.le_refl _) h _ ?_
  simp only [go_sem, Tryz.f138, reduceEqDiff, Nat.reduceBEq, reduceAdd, reduceIte, reduceCtorEq, reduceLeDiff]
  rfl
 | stretch n =>
  simp only [go_sem, Ent.av, extractA, reduceEqDiff, Nat.reduceBEq, reduceAdd, reduceIte, reduceCtorEq, reduceLeDiff]
  refine call_pure (E := Em _) n146 words_pc (SubL.refl _) ?_
  simp only [go_sem, Ent.av, extractA, reduceEqDiff, Nat.reduceBEq, reduceAdd, reduceIte, reduceCtorEq, reduceLeDiff]
  refine call_pure (E := Em _) n211 (stretch_pc n) (SubL.refl _) ?_
  simp only [go_sem, Ent.av, extractA, builtinA, reduceEqDiff, Nat.reduceBEq, reduceAdd, reduceIte, reduceCtorEq, reduceLeDiff]
  refine row_loop 1 [n] (Nat.le_of_ble_eq_true rfl) h _ ?_
  simp only [go_sem, Tryz.f138, reduceEqDiff, Nat.reduceBEq, reduceAdd, reduceIte, reduceCtorEq, reduceLeDiff]
  rfl
 | count c =>
  simp only [go_sem, Ent.av, extractA, reduceEqDiff, Nat.reduceBEq, reduceAdd, reduceIte, reduceCtorEq, reduceLeDiff]
  refine call_pure (E := Em _) n146 words_pc (SubL.refl _) ?_
  simp only [go_sem, Ent.av, extractA, reduceEqDiff, Nat.reduceBEq, reduceAdd, reduceIte, reduceCtorEq, reduceLeDiff]
  refine call_pure (E := Em _) n212 (count_pc c) (SubL.refl _) ?_
  simp only [go_sem, Ent.av, extractA, builtinA, reduceEqDiff, Nat.reduceBEq, reduceAdd, reduceIte, reduceCtorEq, reduceLeDiff]
  refine row_loop 2 [c.point, c.low, c.high] (Nat.le_refl _) h _ ?_
  simp only [go_sem, Tryz.f138, reduceEqDiff, Nat.reduceBEq, reduceAdd, reduceIte, reduceCtorEq, reduceLeDiff]
  rfl
end Go.Av.Fx
end
