/- Part 17 of the proof. -/
import Derived.Test.YtlagjjpbknpdkaaGreatDoorVp16
set_option linter.all false
set_option linter.unusedVariables false
set_option linter.unusedSimpArgs false
set_option linter.unusedSectionVars false
open Nat (reduceEqDiff reduceAdd reduceLeDiff)
section
namespace Go.Av.Fx
open Go Go.Av Go.Av.Tb Go.Proofs
open Go.Fw (Sq ent Bd Mat)
@[go_sem] theorem iter_T (E : Env) (S : St) (l : Nat) (Y : List AV → St → (AV → St → Prop) → Prop) (C : Cx → Prop) : (E.iter S l Y C).T = E.T := rfl
@[go_sem] theorem iter_P (E : Env) (S : St) (l : Nat) (Y : List AV → St → (AV → St → Prop) → Prop) (C : Cx → Prop) : (E.iter S l Y C).P = E.P := rfl
@[go_sem] theorem round_T (E : Env) (S : St) (l : Nat) : (E.inRound l S).T = E.T := rfl
@[go_sem] theorem round_P (E : Env) (S : St) (l : Nat) : (E.inRound l S).P = E.P := rfl
noncomputable def Es (n : Nat) (S : St) : Env := { E n with base := S.heap.length, bt := S.nt }
theorem Es_ok (n : Nat) (S : St) : (Es n S).Ok := ⟨(E_ok n).T, (E_ok n).M, (E_ok n).Cle, (E_ok n).Y⟩
@[go_sem] theorem Es_T (n : Nat) (S : St) : (Es n S).T = T := rfl
@[go_sem] theorem Es_P (n : Nat) (S : St) : (Es n S).P = Tryz.prog := rfl
theorem sets_ac (l : LLine) (S : St) : AC Tryz.prog 151 [lineA l] S fun e S' => e = .ret (.func (.func 161) [] [.ref S.heap.length 0]) ∧ S' = { S with heap := S.heap ++ [some (.cells (lineC l))] } := by
 refine AC.run (Es_ok 4 S) mix Tryz.func151 m151 rfl rfl rfl (Nat.le_of_ble_eq_true rfl) ?_
 simp only [go_sem, boxA, Tryz.f151, reduceEqDiff, Nat.reduceBEq, reduceAdd, reduceIte, reduceCtorEq, reduceLeDiff]
def setA : List Int → AV
 | [] => .nilS
 | s => .slice (ints s) s.length .exact
def ones (m : Nat) : List (List Int) := (List.range m).map fun (i : Nat) => [(i : Int)]
def twosAt (m i : Nat) : List (List Int) := (List.range (m - (i + 1))).map fun (j : Nat) => [(i : Int), ((i + 1 + j : Nat) : Int)]
def twos (m : Nat) : List (List Int) := (List.range m).flatMap (twosAt m)
def setsL (m : Nat) : List (List Int) := [] :: (ones m ++ twos m)
theorem sy_yield {E : Env} {K : AV → St → Prop} {h : Hold K} {l : Nat} {args : List AV} {S : St} {R : AV → St → Prop} (hy : E.Y l args S R) (hk : ∀ v S', R v S' → K v S') : sy E K h (some (l, args)) S := ⟨R, hy, hk⟩
theorem pre1 {k m : Nat} (h : k < m) : [] :: ((List.range k).map fun (i : Nat) => [(i : Int)]) ++ [[(k : Int)]] <+: setsL m := by
 obtain ⟨r, rfl⟩ : ∃ r, m = (k + 1) + r := ⟨m - (k + 1), by omega⟩
 refine ⟨((List.range r).map fun i => [((k + 1 + i : Nat) : Int)]) ++ twos (k + 1 + r), ?_⟩
 unfold setsL ones
 rw [List.range_add, List.range_succ]
 simp
theorem pre2 {i j m : Nat} (h : i < m) (hj : j < m - (i + 1)) : [] :: (ones m ++ ((List.range i).flatMap (twosAt m) ++ (List.range j).map fun (j : Nat) => [(i : Int), ((i + 1 + j : Nat) : Int)])) ++ [[(i : Int), ((i + 1 + j : Nat) : Int)]] <+: setsL m := by
 obtain ⟨r, hr⟩ : ∃ r, m = (i + 1) + r := ⟨m - (i + 1), by omega⟩
 obtain ⟨q, hq⟩ : ∃ q, m - (i + 1) = (j + 1) + q := ⟨m - (i + 1) - (j + 1), by omega⟩
 have e1 : twos m = (List.range i).flatMap (twosAt m) ++ (twosAt m i ++ (List.range r).flatMap fun x => twosAt m (i + 1 + x)) := by
  unfold twos
  rw [show List.range m = List.range (i + 1) ++ (List.range r).map (i + 1 + ·) by rw [← List.range_add, ← hr], List.range_succ]
  simp [List.flatMap_append, List.flatMap_map]
 have e2 : twosAt m i = (List.range j).map (fun (j : Nat) => [(i : Int), ((i + 1 + j : Nat) : Int)]) ++ ([[(i : Int), ((i + 1 + j : Nat) : Int)]] ++ (List.range q).map fun x => [(i : Int), ((i + 1 + (j + 1 + x) : Nat) : Int)]) := by
  unfold twosAt
  rw [hq, List.range_add, List.range_succ]
  simp
 refine ⟨((List.range q).map fun x => [(i : Int), ((i + 1 + (j + 1 + x) : Nat) : Int)]) ++ (List.range r).flatMap fun x => twosAt m (i + 1 + x), ?_⟩
 unfold setsL
 rw [e1, e2]
 simp
theorem setsIter_pc (l : LLine) (hl : l.gives.length ≤ 1000) (g : List (List Int) → St) (i : Nat) (hg : ∀ a, cellsAt (g a).heap i = some (lineC l))
  (Y : List AV → St → (AV → St → Prop) → Prop) (hY : ∀ p s, p ++ [s] <+: setsL l.gives.length → Y [setA s] (g p) (fun v S' => v = .bool true ∧ S' = g (p ++ [s]))) :
  IterC Tryz.prog 161 [.ref i 0] (g []) Y (fun S' => S' = g (setsL l.gives.length)) := by
 refine IterC.run (E_ok _) mix Tryz.func161 m161 rfl (Nat.le_of_ble_eq_true rfl) fun lp C => ?_
 simp only [go_sem, Tryz.f161, reduceEqDiff, Nat.reduceBEq, reduceAdd, reduceIte, reduceCtorEq, reduceLeDiff]
 refine sy_yield ⟨rfl, hY [] [] ⟨_, rfl⟩⟩ ?_
 rintro v S' ⟨rfl, rfl⟩
 simp only [go_sem, un_not, Bool.not_true, hg, builtinA, reduceEqDiff, Nat.reduceBEq, reduceAdd, reduceIte, reduceCtorEq, reduceLeDiff]
 have hm : l.gives.length ≤ 1000 := hl
 generalize hlen : l.gives.length = m at *
 refine wc_for m (fun k => [(0, .func (.yield lp) [] []), (1, .ref i 0), (11, .int .i64 m), (12, .int .i64 k)]) (fun k => g ([] :: (List.range k).map fun (i : Nat) => [(i : Int)])) rfl rfl ?_
 intro k hk I hI
 by_cases h : k < m
 ·have h' : (k : Int) < m := by omega
  have h4 : IntKind.i64.wrap ((k : Int) + 1) = (k + 1 : Nat) := wrap64 (by omega)
  have hI' := hI h
  rw [List.range_succ, List.map_append] at hI'
  simp only [go_sem, l161_0, h', decide_true, reduceEqDiff, Nat.reduceBEq, reduceAdd, reduceIte, reduceCtorEq, reduceLeDiff]
  refine sy_yield ⟨rfl, hY _ [(k : Int)] (pre1 h)⟩ ?_
  rintro v S' ⟨rfl, rfl⟩
  simp only [go_sem, un_not, Bool.not_true, h4, reduceEqDiff, Nat.reduceBEq, reduceAdd, reduceIte, reduceCtorEq, reduceLeDiff]
  exact hI'
 ·have h' : ¬ (k : Int) < m := by omega
  have hkm : k = m := by omega
  subst hkm
  simp only [go_sem, l161_0, h', decide_false, hg, hlen, builtinA, reduceEqDiff, Nat.reduceBEq, reduceAdd, reduceIte, reduceCtorEq, reduceLeDiff]
  clear hI hk h h' I
  refine wc_for k (fun i1 => [(0, .func (.yield lp) [] []), (1, .ref i 0), (23, .int .i64 k), (24, .int .i64 i1)]) (fun i1 => g ([] :: (ones k ++ (List.range i1).flatMap (twosAt k)))) rfl (by simp [ones]) ?_
  intro i1 hi1 I hI
  by_cases h : i1 < k
  ·have h' : (i1 : Int) < k := by omega
   have h4 : IntKind.i64.wrap ((i1 : Int) + 1) = (i1 + 1 : Nat) := wrap64 (by omega)
   have hI' := hI h
   rw [List.range_succ, List.flatMap_append] at hI'
   simp only [List.flatMap_cons, List.flatMap_nil, List.append_nil] at hI'
   simp only [go_sem, l161_1, h', decide_true, h4, reduceEqDiff, Nat.reduceBEq, reduceAdd, reduceIte, reduceCtorEq, reduceLeDiff]
   refine wc_for (k - (i1 + 1)) (fun j => [(0, .func (.yield lp) [] []), (1, .ref i 0), (23, .int .i64 k), (24, .int .i64 i1), (4, .int .i64 i1), (5, .int .i64 (i1 + 1 + j : Nat))]) (fun j => g ([] :: (ones k ++ ((List.range i1).flatMap (twosAt k) ++ (List.range j).map fun (j : Nat) => [(i1 : Int), ((i1 + 1 + j : Nat) : Int)])))) rfl (by simp) ?_
   intro j hj I2 hI2
   by_cases h2 : j < k - (i1 + 1)
   ·have h2' : ((i1 + 1 + j : Nat) : Int) < k := by omega
    have h24 : IntKind.i64.wrap (((i1 + 1 + j : Nat) : Int) + 1) = (i1 + 1 + (j + 1) : Nat) := wrap64 (by omega)
    have hI2' := hI2 h2
    rw [List.range_succ, List.map_append] at hI2'
    simp only [go_sem, l161_2, h2', decide_true, hg, hlen, builtinA, reduceEqDiff, Nat.reduceBEq, reduceAdd, reduceIte, reduceCtorEq, reduceLeDiff]
    refine sy_yield ⟨rfl, hY _ [(i1 : Int), ((i1 + 1 + j : Nat) : Int)] (pre2 h h2)⟩ ?_
    rintro v S' ⟨rfl, rfl⟩
    simp only [go_sem, un_not, Bool.not_true, h24, reduceEqDiff, Nat.reduceBEq, reduceAdd, reduceIte, reduceCtorEq, reduceLeDiff]
    simp only [List.cons_append, List.append_assoc, List.map_cons, List.map_nil] at hI2' ⊢
    exact hI2'
   ·have h2' : ¬ ((i1 + 1 + j : Nat) : Int) < k := by omega
    simp only [go_sem, l161_2, h2', decide_false, hg, hlen, builtinA, h4, reduceEqDiff, Nat.reduceBEq, reduceAdd, reduceIte, reduceCtorEq, reduceLeDiff]
    rw [show j = k - (i1 + 1) by omega]
    exact hI'
  ·have h' : ¬ (i1 : Int) < k := by omega
   simp only [go_sem, l161_1, h', decide_false, reduceEqDiff, Nat.reduceBEq, reduceAdd, reduceIte, reduceCtorEq, reduceLeDiff]
   rw [show i1 = k by omega]
   exact ⟨⟨_, rfl⟩, rfl⟩
def thR (L : List Theft) : List AV := L.flatMap fun t => [setA t.1, wS t.2]
def thT : List Theft → AV
 | [] => .nilS
 | t :: L => .slice (thR (t :: L)) (L.length + 1) (.tok L.length)
def addT (l : LLine) (L : List Theft) (s : List Int) : List Theft := match explM l s with
 | some W => L ++ [(s, W)]
 | none => L
def theftsL (l : LLine) : List Theft := (setsL l.gives.length).foldl (addT l) []
theorem thR_snoc (L : List Theft) (s : List Int) (W : Mat) : thR (L ++ [(s, W)]) = thR L ++ [setA s, wS W] := by simp [thR]
theorem thR_len (L : List Theft) : (thR L).length = L.length * 2 := by
 induction L with
 | nil => rfl
 | cons t L ih => simp only [thR, List.flatMap_cons, List.length_append] at ih ⊢; rw [ih]; simp; omega
@[go_sem] theorem setA_one (s : List Int) : AV.one (setA s) = true := by cases s <;> rfl
theorem thT_one (L : List Theft) : AV.one (thT L) = true := by cases L <;> rfl
attribute [go_sem] thT_one
@[go_sem] theorem thT_cl (L : List Theft) : AV.cells (thT L) = [thT L] := cells_one (thT_one L)
@[go_sem] theorem setA_cl (s : List Int) : AV.cells (setA s) = [setA s] := by cases s <;> rfl
@[go_sem] theorem bd113_A (s : List Int) (m : List AV) (k : Nat) (u : Tail) : buildA T 113 [(0, setA s), (1, .slice m k u)] = some (.agg [setA s, .slice m k u]) := by cases s <;> rfl
theorem setA_sub (s : List Int) : Sub (setA s) (sl s) := by
 cases s with
 | nil => exact Sub.nil
 | cons a s => exact Sub.unk _ _ _
theorem setA_frz (h : List (Option Blk)) (s : List Int) : Frz h (setA s) (sl s) := by
 cases s with
 | nil => exact .nil
 | cons a s => exact .unk _ _ _
theorem thR_frz (h : List (Option Blk)) : ∀ (L : List Theft) (j : Nat) (x y : AV), (thR L)[j]? = some x → (thefts L)[j]? = some y → Frz h x y
 | [], j, x, y, hx, _ => by simp [thR] at hx
 | t :: L, 0, x, y, hx, hy => by simp [thR] at hx; simp [thefts] at hy; subst hx; subst hy; exact setA_frz h t.1
 | t :: L, 1, x, y, hx, hy => by simp [thR] at hx; simp [thefts] at hy; subst hx; subst hy; exact .same _
 | t :: L, j + 2, x, y, hx, hy => by
  refine thR_frz h L j x y ?_ ?_
  ·simpa [thR] using hx
  ·simpa [thefts] using hy
theorem thT_frz (h : List (Option Blk)) (L : List Theft) : Frz h (thT L) (.slice (thefts L) L.length .unk) := by
 cases L with
 | nil => exact .nil
 | cons t L => exact .slice _ _ _ _ (by rw [thR_len, thefts_len]) fun j x y hx hy => thR_frz h (t :: L) j x y hx hy
theorem sr_appT {K : AV → St → Prop} {hK : Hold K} {h : List (Option Blk)} (L : List Theft) (s : List Int) (W : Mat) (hL : L.length ≤ 1000)
  (next : K (thT (L ++ [(s, W)])) ⟨h, L.length + 1, toksN (L.length + 1)⟩) : sr K hK (appendA T ⟨h, L.length, toksN L.length⟩ 106 (thT L) (.slice [setA s, wS W] 1 .exact)) ⟨h, L.length, toksN L.length⟩ := by
 cases L with
 | nil =>
  have : appendA T ⟨h, ([] : List Theft).length, toksN ([] : List Theft).length⟩ 106 (thT []) (.slice [setA s, wS W] 1 .exact) = some (.tok none (fun j => .slice [setA s, wS W] 1 (.tok j))) := by cases s <;> rfl
  rw [this, sr_tok]; exact next
 | cons t L =>
  show sr K hK (appendA T ⟨h, (t :: L).length, toksN (t :: L).length⟩ 106 (.slice (thR (t :: L)) (L.length + 1) (.tok L.length)) _) _
  simp only [List.length_cons] at hL
  rw [app_gen (e := 113) (ei := ti113) (lx := [setA s, wS W]) (nx := 1) rfl rfl (by decide) rfl (by decide) (by simp only [List.all_cons, List.all_nil, setA_one, Bool.and_true]; rfl) (by show (L.length + 1 + 1) * 48 ≤ _; omega) (by omega) (by rw [thR_len]; simp [ti113])]
  rw [sr_tok_some]
  refine ⟨List.mem_cons_self, ?_⟩
  have : killTok (toksN (L.length + 1)) (some L.length) = [] := by simp [killTok, toksN]
  show K (.slice (thR (t :: L) ++ [setA s, wS W]) (L.length + 1 + 1) (.tok (L.length + 1))) ⟨h, L.length + 1 + 1, (L.length + 1) :: killTok (toksN (L.length + 1)) (some L.length)⟩
  rw [this, ← thR_snoc]
  have e : thT (t :: L ++ [(s, W)]) = .slice (thR (t :: L ++ [(s, W)])) (L.length + 1 + 1) (.tok (L.length + 1)) := by simp [thT]
  rw [← e]; exact next
@[go_sem] theorem onlyN_normal (K : TS → St → Prop) (ts : TS) (S : St) : onlyN K .normal ts S = K ts S := rfl
@[go_sem] theorem zipTS_1 (p : Nat) (v : AV) (ts : TS) : zipTS [p] [v] ts = ts.set p v := rfl
def gS (l : LLine) (L : List Theft) : St :=
 ⟨[some (.cells (lineC l)), some (.cells [.nilS, .int .i64 0, .int .i64 0, .int .i64 0, .nilS, .nilS]),
  some (.cells [sl l.gives, .int .i64 l.least, .int .i64 l.most, .int .i64 l.taps, .slice (cnts l.counts) l.counts.length .unk, thT L]), some (.cells (lineC l))], L.length, toksN L.length⟩
theorem setsL_len {n : Nat} {s : List Int} (h : s ∈ setsL n) : s.length ≤ 2 := by
 simp only [setsL, ones, twos, twosAt, List.mem_cons, List.mem_append, List.mem_flatMap, List.mem_map] at h
 rcases h with rfl | ⟨i, _, rfl⟩ | ⟨i, _, j, _, rfl⟩ <;> simp
theorem addT_len (l : LLine) (L : List Theft) (s : List Int) : (addT l L s).length ≤ L.length + 1 := by
 unfold addT; split <;> simp
theorem solved_pc (l : LLine) (h : Ln l) : PC Tryz.prog 118 [lineA l] (.pure (.agg (lnC l (theftsL l)))) := by
 have hp := h.pts
 refine PC.of_frz (AC.run (E_ok _) mix Tryz.func118 m118 rfl rfl rfl (Nat.le_of_ble_eq_true rfl) ?_) (by simp [bndL, AV.bnd]) (by simp [bndL, AV.bnd])
 simp only [go_sem, boxA, reduceEqDiff, Nat.reduceBEq, reduceAdd, reduceIte, reduceCtorEq, reduceLeDiff]
 refine cac n151 (sets_ac l _) ?_ (fun v S' hh => nomatch hh.1)
 rintro v S' ⟨hv, rfl⟩
 cases hv
 simp only [go_sem, reduceEqDiff, Nat.reduceBEq, reduceAdd, reduceIte, reduceCtorEq, reduceLeDiff]
 have hlen : ∀ p, p <+: setsL l.gives.length → (p.foldl (addT l) []).length ≤ 100 := by
  intro p hp'
  have h1 : ∀ (p : List (List Int)) (L : List Theft), (p.foldl (addT l) L).length ≤ L.length + p.length := by
   intro p
   induction p with
   | nil => intro L; simp
   | cons s p ih => intro L; have := ih (addT l L s); have := addT_len l L s; simp only [List.foldl_cons, List.length_cons]; omega
  have h2 := h1 p []
  have h3 := hp'.length_le
  have h4 : ∀ m, m ≤ 5 → (setsL m).length ≤ 100 := by decide
  have := h4 _ hp.2
  simp at h2; omega
 refine ⟨fun _ => trivial, rfl, rfl, 161, [.ref 3 0], _, rfl, n161, setsIter_pc l (by omega) (fun p => gS l (p.foldl (addT l) [])) 3 (fun _ => rfl) _ ?_, ?_⟩
 ·rintro p s hs
  have hL := hlen p ⟨[s] ++ hs.choose, by rw [← List.append_assoc]; exact hs.choose_spec⟩
  have hs2 : s ∈ setsL l.gives.length := hs.subset (by simp)
  rw [List.foldl_append]
  generalize p.foldl (addT l) [] = L at *
  refine ⟨rfl, fun lp => ?_⟩
  simp only [go_sem, a118_0, b118_0, gS, reduceEqDiff, Nat.reduceBEq, reduceAdd, reduceIte, reduceCtorEq, reduceLeDiff]
  refine call_pure n84 (explained_pc l h s (by have := setsL_len hs2; omega)) (SubL.cons (Sub.refl _) (SubL.cons (setA_sub s) (SubL.refl []))) ?_
  cases hx : explM l s with
  | none =>
   simp only [go_sem, closeA, extractA, reduceEqDiff, Nat.reduceBEq, reduceAdd, reduceIte, reduceCtorEq, reduceLeDiff]
   simp only [List.foldl_cons, List.foldl_nil, addT, hx]
  | some W =>
   simp only [go_sem, closeA, extractA, reduceEqDiff, Nat.reduceBEq, reduceAdd, reduceIte, reduceCtorEq, reduceLeDiff]
   refine sr_appT L s W (by omega) ?_
   simp only [go_sem, reduceEqDiff, Nat.reduceBEq, reduceAdd, reduceIte, reduceCtorEq, reduceLeDiff]
   simp only [List.foldl_cons, List.foldl_nil, addT, hx]
   rw [show (L ++ [(s, W)]).length = L.length + 1 by simp]
 ·rintro S' rfl
  show blockQ _ _ _ _ (gS l (theftsL l))
  have hL := hlen _ (List.prefix_refl _)
  rw [show (setsL l.gives.length).foldl (addT l) [] = theftsL l from rfl] at hL
  generalize theftsL l = L at *
  simp only [go_sem, gS, Tryz.f118, reduceEqDiff, Nat.reduceBEq, reduceAdd, reduceIte, reduceCtorEq, reduceLeDiff]
  refine ⟨_, rfl, .agg _ _ (by simp) fun j x y hx hy => ?_⟩
  match j, hx, hy with
  | 0, hx, hy => simp at hx hy; subst hx; subst hy; exact .same _
  | 1, hx, hy => simp at hx hy; subst hx; subst hy; exact .same _
  | 2, hx, hy => simp at hx hy; subst hx; subst hy; exact .same _
  | 3, hx, hy => simp at hx hy; subst hx; subst hy; exact .same _
  | 4, hx, hy => simp at hx hy; subst hx; subst hy; exact .same _
  | 5, hx, hy => simp at hx hy; subst hx; subst hy; exact thT_frz _ L
  | j + 6, hx, hy => simp at hx
end Go.Av.Fx
end
section
namespace Go.Av.Fx
open Go Go.Av Go.Av.Tb Go.Proofs
open Go.Fw (Sq ent Bd Mat)
@[go_sem] theorem ne00 : decide ((0 : Int) ≠ 0) = false := rfl
@[go_sem] theorem ne10 : decide ((1 : Int) ≠ 0) = true := rfl
@[go_sem] theorem ne20 : decide ((2 : Int) ≠ 0) = true := rfl
@[go_sem] theorem ne30 : decide ((3 : Int) ≠ 0) = true := rfl
@[go_sem] theorem ne40 : decide ((4 : Int) ≠ 0) = true := rfl
@[go_sem] theorem ne50 : decide ((5 : Int) ≠ 0) = true := rfl
@[go_sem] theorem ne60 : decide ((6 : Int) ≠ 0) = true := rfl
@[go_sem] theorem ne70 : decide ((7 : Int) ≠ 0) = true := rfl
@[go_sem] theorem ne80 : decide ((8 : Int) ≠ 0) = true := rfl
@[go_sem] theorem ne90 : decide ((9 : Int) ≠ 0) = true := rfl
@[go_sem] theorem eq00 : decide ((0 : Int) = 0) = true := rfl
@[go_sem] theorem eq10 : decide ((1 : Int) = 0) = false := rfl
@[go_sem] theorem eq20 : decide ((2 : Int) = 0) = false := rfl
@[go_sem] theorem eq30 : decide ((3 : Int) = 0) = false := rfl
@[go_sem] theorem eq40 : decide ((4 : Int) = 0) = false := rfl
@[go_sem] theorem eq50 : decide ((5 : Int) = 0) = false := rfl
@[go_sem] theorem eq60 : decide ((6 : Int) = 0) = false := rfl
@[go_sem] theorem eq70 : decide ((7 : Int) = 0) = false := rfl
@[go_sem] theorem eq80 : decide ((8 : Int) = 0) = false := rfl
@[go_sem] theorem eq90 : decide ((9 : Int) = 0) = false := rfl
def possB (l : LLine) : Bool := decide ((theftsL l).length > 0)
theorem possible_pc (l : LLine) (h : Ln l) : PC Tryz.prog 94 [lineA l] (.pure (.bool (possB l))) := by
 refine PC.of_empty (AC.run (E_ok _) mix Tryz.func94 m94 rfl rfl rfl (Nat.le_of_ble_eq_true rfl) ?_) (by simp [bndL, AV.bnd]) rfl
 simp only [go_sem, boxA, reduceEqDiff, Nat.reduceBEq, reduceAdd, reduceIte, reduceCtorEq, reduceLeDiff]
 refine cp n118 (solved_pc l h) (SubL.refl _) ?_
 have e : decide (((theftsL l).length : Int) > 0) = possB l := by unfold possB; congr 1; simp
 simp only [go_sem, builtinA, e, Tryz.f94, reduceEqDiff, Nat.reduceBEq, reduceAdd, reduceIte, reduceCtorEq, reduceLeDiff]
theorem Possible_pc (l : LLine) (ok : okLine l) : PC Tryz.prog 41 [lineA l] (.pure (.tuple [.bool (isLineB l && possB l), .int .i64 (if isLineB l = true then 0 else 2)])) := by
 refine PC.of_empty (AC.run (E_ok _) mix Tryz.func41 m41 rfl rfl rfl (Nat.le_of_ble_eq_true rfl) ?_) (by simp [bndL, AV.bnd]) rfl
 simp only [go_sem, boxA, reduceEqDiff, Nat.reduceBEq, reduceAdd, reduceIte, reduceCtorEq, reduceLeDiff]
 refine cp n82 (isLine_pc l ok) (SubL.refl _) ?_
 cases h : isLineB l
 ·simp only [go_sem, un_not, Bool.not_false, Tryz.f41, Bool.false_and, reduceEqDiff, Nat.reduceBEq, reduceAdd, reduceIte, reduceCtorEq, reduceLeDiff]
 ·simp only [go_sem, un_not, Bool.not_true, reduceEqDiff, Nat.reduceBEq, reduceAdd, reduceIte, reduceCtorEq, reduceLeDiff]
  refine cp n94 (possible_pc l (isLine_iff.1 h)) (SubL.refl _) ?_
  simp only [go_sem, Tryz.f41, Bool.true_and, reduceEqDiff, Nat.reduceBEq, reduceAdd, reduceIte, reduceCtorEq, reduceLeDiff]
abbrev zeroLn : AV := .agg [.nilS, .int .i64 0, .int .i64 0, .int .i64 0, .nilS, .nilS]
def askE (l : LLine) (fine : Bool) : Int := if isLineB l = true then (if fine = true then (if possB l = true then 0 else 7) else 2) else 2
def askedA (l : LLine) (fine : Bool) : AV := if isLineB l = true then (if fine = true then (if possB l = true then .tuple [.agg (lnC l (theftsL l)), .int .i64 0] else .tuple [zeroLn, .int .i64 7]) else .tuple [zeroLn, .int .i64 2]) else .tuple [zeroLn, .int .i64 2]
theorem askedA_bnd (l : LLine) (fine : Bool) : (askedA l fine).bnd 0 0 = true := by
 unfold askedA; repeat' split
 all_goals simp [AV.bnd, bndL]
theorem asked_pc (l : LLine) (ok : okLine l) (fine : Bool) : PC Tryz.prog 75 [lineA l, .bool fine] (.pure (askedA l fine)) := by
 refine PC.of_empty (AC.run (E_ok _) mix Tryz.func75 m75 rfl rfl rfl (Nat.le_of_ble_eq_true rfl) ?_) (by simp [bndL, AV.bnd]) (askedA_bnd _ _)
 simp only [go_sem, boxA, reduceEqDiff, Nat.reduceBEq, reduceAdd, reduceIte, reduceCtorEq, reduceLeDiff]
 refine cp n82 (isLine_pc l ok) (SubL.refl _) ?_
 cases h : isLineB l
 ·simp only [go_sem, un_not, Bool.not_false, Tryz.f75, askedA, h, reduceEqDiff, Nat.reduceBEq, reduceAdd, reduceIte, reduceCtorEq, reduceLeDiff]
 ·cases fine
  ·simp only [go_sem, un_not, Bool.not_true, Bool.not_false, Tryz.f75, askedA, h, reduceEqDiff, Nat.reduceBEq, reduceAdd, reduceIte, reduceCtorEq, reduceLeDiff]
  ·simp only [go_sem, un_not, Bool.not_true, reduceEqDiff, Nat.reduceBEq, reduceAdd, reduceIte, reduceCtorEq, reduceLeDiff]
   refine cp n118 (solved_pc l (isLine_iff.1 h)) (SubL.refl _) ?_
   cases hp : possB l
   ·have e0 : (theftsL l).length = 0 := by
     have := hp; unfold possB at this; simp at this
     rw [this]; rfl
    have e : decide ((((theftsL l).length : Nat) : Int) = 0) = true := by rw [e0]; rfl
    simp only [go_sem, builtinA, e, Tryz.f75, askedA, h, hp, reduceEqDiff, Nat.reduceBEq, reduceAdd, reduceIte, reduceCtorEq, reduceLeDiff]
   ·have e : decide ((((theftsL l).length : Nat) : Int) = 0) = false := by
     unfold possB at hp; simp at hp
     rw [decide_eq_false_iff_not]
     omega
    simp only [go_sem, builtinA, e, Tryz.f75, askedA, h, hp, reduceEqDiff, Nat.reduceBEq, reduceAdd, reduceIte, reduceCtorEq, reduceLeDiff]
end Go.Av.Fx
end
section
namespace Go.Av.Fx
open Go Go.Av Go.Av.Tb Go.Proofs
open Go.Fw (Sq ent Bd Mat)
def gro (l : List AV) : AV := match l with
 | [] => .nilS
 | a :: l => .slice (a :: l) (l.length + 1) (.tok l.length)
@[go_sem] theorem gro_one (l : List AV) : AV.one (gro l) = true := by cases l <;> rfl
theorem gro_frz (h : List (Option Blk)) (l l' : List AV) (hl : l.length = l'.length) (hf : ∀ (j : Nat) (x y : AV), l[j]? = some x → l'[j]? = some y → Frz h x y) : Frz h (gro l) (.slice l' l'.length .unk) := by
 cases l with
 | nil => cases l' with
  | nil => exact .nil
  | cons a l' => cases hl
 | cons a l =>
  have e : (a :: l).length = l'.length := hl
  rw [← e]
  exact .slice _ _ _ _ hl hf
theorem gro_frz_same (h : List (Option Blk)) (l : List AV) : Frz h (gro l) (.slice l l.length .unk) :=
 gro_frz h l l rfl fun j x y hx hy => by rw [hx] at hy; cases hy; exact .same _
theorem gro_bnd {n : Nat} {l : List AV} (h : bndL n l.length l = true) : (gro l).bnd n l.length = true := by
 cases l with
 | nil => rfl
 | cons a l =>
  simp only [List.length_cons] at h
  simp only [gro, AV.bnd, List.length_cons, h, Bool.true_and]; simp
theorem gro_app (T : Tab) (t e : TypeId) (ei : TI) (h1 : descOf T t = some (.slice e)) (h2 : T e = some ei) (h3 : ei.size = 1) (h4 : ei.bytes ≤ 100) (l : List AV) (x : AV) (tx : Tail) (hx : AV.one x = true) (hn : appendA T ⟨[], 0, []⟩ t .nilS (.slice [x] 1 tx) = some (.tok none fun j => .slice [x] 1 (.tok j)))
  (hl : l.length ≤ 100000) {K : AV → St → Prop} {hK : Hold K} {h : List (Option Blk)} (hnil : ∀ S : St, appendA T S t .nilS (.slice [x] 1 tx) = some (.tok none fun j => .slice [x] 1 (.tok j))) (next : K (gro (l ++ [x])) ⟨h, l.length + 1, toksN (l.length + 1)⟩) : sr K hK (appendA T ⟨h, l.length, toksN l.length⟩ t (gro l) (.slice [x] 1 tx)) ⟨h, l.length, toksN l.length⟩ := by
 cases l with
 | nil =>
  show sr K hK (appendA T ⟨h, 0, []⟩ t .nilS (.slice [x] 1 tx)) _
  rw [hnil, sr_tok]; exact next
 | cons a l =>
  show sr K hK (appendA T ⟨h, (a :: l).length, toksN (a :: l).length⟩ t (.slice (a :: l) (l.length + 1) (.tok l.length)) _) _
  simp only [List.length_cons] at hl
  have hh : heldA ⟨h, (a :: l).length, toksN (a :: l).length⟩ ei.size (.slice [x] 1 tx) = some ([x], 1) := by rw [h3]; rfl
  rw [app_gen (e := e) (ei := ei) (lx := [x]) (nx := 1) h1 h2 (by rw [h3]; decide) hh (by decide) (by simp only [List.all_cons, List.all_nil, hx, Bool.and_true]) (by
   have : (l.length + 1 + 1) * ei.bytes ≤ (l.length + 1 + 1) * 100 := Nat.mul_le_mul_left _ h4
   omega) (by omega) (by rw [h3]; simp)]
  rw [sr_tok_some]
  refine ⟨List.mem_cons_self, ?_⟩
  have : killTok (toksN (l.length + 1)) (some l.length) = [] := by simp [killTok, toksN]
  show K (.slice (a :: l ++ [x]) (l.length + 1 + 1) (.tok (l.length + 1))) ⟨h, l.length + 1 + 1, (l.length + 1) :: killTok (toksN (l.length + 1)) (some l.length)⟩
  rw [this]
  have e : gro (a :: l ++ [x]) = .slice (a :: l ++ [x]) (l.length + 1 + 1) (.tok (l.length + 1)) := by simp [gro]
  rw [← e]; exact next
theorem toksN_lt {t n : Nat} (h : t ∈ toksN n) : t < n := by
 cases n with
 | zero => cases h
 | succ n => simp [toksN] at h; omega
theorem sr_gro22 (l : List AV) (n : Int) (tx : Tail) {q : Nat} (hq : l.length = q) (hl : q ≤ 100000) {K : AV → St → Prop} {hK : Hold K} {h : List (Option Blk)} (next : K (gro (l ++ [.int .i64 n])) ⟨h, q + 1, toksN (q + 1)⟩) : sr K hK (appendA T ⟨h, q, toksN q⟩ 22 (gro l) (.slice [.int .i64 n] 1 tx)) ⟨h, q, toksN q⟩ := by
 subst hq; exact gro_app T 22 3 ti3 rfl rfl rfl (by decide) l _ tx rfl rfl hl (fun S => rfl) next
theorem sr_gro28 (l : List AV) (n : Int) (tx : Tail) {q : Nat} (hq : l.length = q) (hl : q ≤ 100000) {K : AV → St → Prop} {hK : Hold K} {h : List (Option Blk)} (next : K (gro (l ++ [.int .i64 n])) ⟨h, q + 1, toksN (q + 1)⟩) : sr K hK (appendA T ⟨h, q, toksN q⟩ 28 (gro l) (.slice [.int .i64 n] 1 tx)) ⟨h, q, toksN q⟩ := by
 subst hq; exact gro_app T 28 48 ti48 rfl rfl rfl (by decide) l _ tx rfl rfl hl (fun S => rfl) next
theorem sr_gro32 (l : List AV) (s : List AV) (n : Nat) (t tx : Tail) {q : Nat} (hq : l.length = q) (hl : q ≤ 100000) {K : AV → St → Prop} {hK : Hold K} {h : List (Option Blk)} (next : K (gro (l ++ [.slice s n t])) ⟨h, q + 1, toksN (q + 1)⟩) : sr K hK (appendA T ⟨h, q, toksN q⟩ 32 (gro l) (.slice [.slice s n t] 1 tx)) ⟨h, q, toksN q⟩ := by
 subst hq; exact gro_app T 32 22 ti22 rfl rfl rfl (by decide) l _ tx rfl rfl hl (fun S => rfl) next
theorem setsL_len5 {m : Nat} (h : m ≤ 5) : (setsL m).length ≤ 100 := by
 have h4 : ∀ m, m ≤ 5 → (setsL m).length ≤ 100 := by decide
 exact h4 _ h
theorem theftsL_len {l : LLine} (h : Ln l) : (theftsL l).length ≤ 100 := by
 have h1 : ∀ (p : List (List Int)) (L : List Theft), (p.foldl (addT l) L).length ≤ L.length + p.length := by
  intro p
  induction p with
  | nil => intro L; simp
  | cons s p ih => intro L; have := ih (addT l L s); have := addT_len l L s; simp only [List.foldl_cons, List.length_cons]; omega
 have := h1 (setsL l.gives.length) []
 have := setsL_len5 h.pts.2
 unfold theftsL; simp at *; omega
def setsOut (l : LLine) : List (List Int) := (theftsL l).map (·.1)
def setsA (l : LLine) : AV := if askE l true = 0 then .tuple [.slice ((setsOut l).map sl) (setsOut l).length .unk, .int .i64 0] else .tuple [.nilS, .int .i64 (askE l true)]
theorem Sets_pc (l : LLine) (ok : okLine l) : PC Tryz.prog 22 [lineA l] (.pure (setsA l)) := by
 refine PC.of_frz (AC.run (E_ok _) mix Tryz.func22 m22 rfl rfl rfl (Nat.le_of_ble_eq_true rfl) ?_) (by simp [bndL, AV.bnd]) (by unfold setsA; split <;> simp [bndL, AV.bnd])
 simp only [go_sem, boxA, reduceEqDiff, Nat.reduceBEq, reduceAdd, reduceIte, reduceCtorEq, reduceLeDiff]
 refine cp n75 (asked_pc l ok true) (SubL.refl _) ?_
 cases h : isLineB l
 ·simp only [go_sem, askedA, h, extractA, Tryz.f22, reduceEqDiff, Nat.reduceBEq, reduceAdd, reduceIte, reduceCtorEq, reduceLeDiff]
  refine ⟨_, rfl, ?_⟩
  simp only [setsA, askE, h]; exact .same _
 cases hp : possB l
 ·simp only [go_sem, askedA, h, hp, extractA, Tryz.f22, reduceEqDiff, Nat.reduceBEq, reduceAdd, reduceIte, reduceCtorEq, reduceLeDiff]
  refine ⟨_, rfl, ?_⟩
  simp only [setsA, askE, h, hp]; exact .same _
 have hlen := theftsL_len (isLine_iff.1 h)
 have e1 : setsA l = .tuple [.slice ((setsOut l).map sl) (setsOut l).length .unk, .int .i64 0] := by simp only [setsA, askE, h, hp]; rfl
 rw [e1]
 unfold setsOut
 simp only [go_sem, askedA, h, hp, extractA, builtinA, reduceEqDiff, Nat.reduceBEq, reduceAdd, reduceIte, reduceCtorEq, reduceLeDiff]
 generalize theftsL l = L at *
 refine wc_forG L.length (fun k => [(6, gro ((L.take k).map fun t => sl t.1)), (18, .slice (thefts L) L.length .unk), (19, .int .i64 L.length), (20, .int .i64 k)])
  (fun k => ⟨[some (.cells (lineC l)), some (.cells (lnC l L))], k, toksN k⟩) rfl rfl (fun k hk => ?_) ?_
 ·have e : ((L.take k).map fun t => sl t.1).length = k := by simp; omega
  have e2 := gro_bnd (n := 2) (l := (L.take k).map fun t => sl t.1) (bndL_map _ (fun _ => by simp [AV.bnd]) _)
  rw [e] at e2
  refine ⟨Nat.zero_le _, Nat.zero_le _, by show (AV.bnd 2 k (gro ((L.take k).map fun t => sl t.1)) && bndTS 2 k _) = true; rw [e2]; simp [bndTS, AV.bnd], fun i B hB => ?_, fun t ht => toksN_lt ht⟩
  match i, hB with
  | 0, hB => simp at hB; subst hB; simp [Blk.bnd, bndL, AV.bnd]
  | 1, hB => simp at hB; subst hB; simp [Blk.bnd, bndL, AV.bnd]
  | i + 2, hB => simp at hB
 intro k hk I hI
 by_cases h' : k < L.length
 ·have h1 : (k : Int) < L.length := by omega
  have h2 : 0 ≤ (k : Int) ∧ (k : Int) < L.length := by omega
  have h3 : k * 2 + 2 ≤ (thefts L).length := by rw [thefts_len]; omega
  have h5 := thefts_at L k h'
  have h6 : IntKind.i64.wrap ((k : Int) + 1) = (k + 1 : Nat) := wrap64 (by omega)
  simp only [go_sem, l22_0, h1, decide_true, h2, h3, h5, builtinA, reduceEqDiff, Nat.reduceBEq, reduceAdd, reduceIte, reduceCtorEq, reduceLeDiff]
  refine sr_gro32 _ _ _ _ _ (by simp; omega) (by omega) ?_
  simp only [go_sem, h6, reduceEqDiff, Nat.reduceBEq, reduceAdd, reduceIte, reduceCtorEq, reduceLeDiff]
  have hI' := hI h' [some (.cells [sl L[k].1, wS L[k].2])]
  rw [List.take_succ_eq_append_getElem h', List.map_append] at hI'
  exact hI'
 ·have h1 : ¬ (k : Int) < L.length := by omega
  simp only [go_sem, l22_0, h1, decide_false, Tryz.f22, reduceEqDiff, Nat.reduceBEq, reduceAdd, reduceIte, reduceCtorEq, reduceLeDiff]
  rw [List.take_of_length_le (by omega)]
  refine ⟨_, rfl, .tuple _ _ rfl fun j x y hx hy => ?_⟩
  match j, hx, hy with
  | 0, hx, hy =>
   simp only [List.getElem?_cons_zero, Option.some.injEq] at hx hy; subst hx; subst hy
   rw [List.map_map, List.length_map]
   have := gro_frz_same [some (Blk.cells (lineC l)), some (Blk.cells (lnC l L))] (L.map fun t => sl t.1)
   rw [List.length_map] at this
   exact this
  | 1, hx, hy => simp at hx hy; subst hx; subst hy; exact .same _
  | j + 2, hx, hy => simp at hx
def manyT (L : List Theft) (i : Nat) : Nat := L.foldl (fun n t => if t.1.contains (i : Int) = true then n + 1 else n) 0
def wordT (L : List Theft) (i : Nat) : Int := if manyT L i = 0 then 1 else if manyT L i = L.length then 3 else 2
def wordsT (L : List Theft) (m : Nat) : List Int := (List.range m).map (wordT L)
def knownA (l : LLine) : AV := if askE l true = 0 then .tuple [.slice (ints (wordsT (theftsL l) l.gives.length)) l.gives.length .unk, .int .i64 0] else .tuple [.nilS, .int .i64 (askE l true)]
theorem manyT_le (L : List Theft) (i : Nat) : manyT L i ≤ L.length := by
 have : ∀ (L : List Theft) (z : Nat), L.foldl (fun n t => if t.1.contains (i : Int) = true then n + 1 else n) z ≤ z + L.length := by
  intro L
  induction L with
  | nil => intro z; simp
  | cons t L ih =>
   intro z
   simp only [List.foldl_cons, List.length_cons]
   split
   ·have := ih (z + 1); omega
   ·have := ih z; omega
 have := this L 0
 unfold manyT; omega
theorem theft_len {l : LLine} {t : Theft} (h : t ∈ theftsL l) : t.1.length ≤ 2 := by
 have : ∀ (p : List (List Int)) (L : List Theft), (∀ s ∈ p, s.length ≤ 2) → (∀ t ∈ L, t.1.length ≤ 2) → ∀ t ∈ p.foldl (addT l) L, t.1.length ≤ 2 := by
  intro p
  induction p with
  | nil => intro L _ h t ht; exact h t ht
  | cons s p ih =>
   intro L hp hL
   refine ih _ (fun s hs => hp s (List.mem_cons_of_mem _ hs)) fun t ht => ?_
   unfold addT at ht
   split at ht
   ·rcases List.mem_append.1 ht with h | h
    ·exact hL t h
    ·simp at h; subst h; exact hp s List.mem_cons_self
   ·exact hL t ht
 exact this _ [] (fun s hs => setsL_len hs) (fun t ht => by cases ht) t h
theorem Known_pc (l : LLine) (ok : okLine l) : PC Tryz.prog 21 [lineA l] (.pure (knownA l)) := by
 refine PC.of_frz (AC.run (E_ok _) mix Tryz.func21 m21 rfl rfl rfl (Nat.le_of_ble_eq_true rfl) ?_) (by simp [bndL, AV.bnd]) (by unfold knownA; split <;> simp [bndL, AV.bnd])
 simp only [go_sem, boxA, reduceEqDiff, Nat.reduceBEq, reduceAdd, reduceIte, reduceCtorEq, reduceLeDiff]
 refine cp n75 (asked_pc l ok true) (SubL.refl _) ?_
 cases h : isLineB l
 ·simp only [go_sem, askedA, h, extractA, Tryz.f21, reduceEqDiff, Nat.reduceBEq, reduceAdd, reduceIte, reduceCtorEq, reduceLeDiff]
  refine ⟨_, rfl, ?_⟩
  simp only [knownA, askE, h]; exact .same _
 cases hp : possB l
 ·simp only [go_sem, askedA, h, hp, extractA, Tryz.f21, reduceEqDiff, Nat.reduceBEq, reduceAdd, reduceIte, reduceCtorEq, reduceLeDiff]
  refine ⟨_, rfl, ?_⟩
  simp only [knownA, askE, h, hp]; exact .same _
 have hln := isLine_iff.1 h
 have hlen := theftsL_len hln
 have hpts := hln.pts
 have htl : ∀ t ∈ theftsL l, t.1.length ≤ 2 := fun t ht => theft_len ht
 have e1 : knownA l = .tuple [.slice (ints (wordsT (theftsL l) l.gives.length)) l.gives.length .unk, .int .i64 0] := by simp only [knownA, askE, h, hp]; rfl
 rw [e1]
 simp only [go_sem, askedA, h, hp, extractA, builtinA, reduceEqDiff, Nat.reduceBEq, reduceAdd, reduceIte, reduceCtorEq, reduceLeDiff]
 generalize theftsL l = L at *
 refine wc_forG l.gives.length (fun k => [(4, .ref 1 0), (6, gro (ints (wordsT L k))), (22, .int .i64 l.gives.length), (23, .int .i64 k)])
  (fun k => ⟨[some (.cells (lineC l)), some (.cells (lnC l L))], k, toksN k⟩) rfl rfl (fun k hk => ?_) ?_
 ·have e : (ints (wordsT L k)).length = k := by simp [wordsT]
  have e2 := gro_bnd (n := 2) (l := ints (wordsT L k)) (by simp)
  rw [e] at e2
  refine ⟨Nat.zero_le _, Nat.zero_le _, by simp [bndTS, AV.bnd, e2], fun i B hB => ?_, fun t ht => toksN_lt ht⟩
  match i, hB with
  | 0, hB => simp at hB; subst hB; simp [Blk.bnd, bndL, AV.bnd]
  | 1, hB => simp at hB; subst hB; simp [Blk.bnd, bndL, AV.bnd]
  | i + 2, hB => simp at hB
 intro k hk I hI
 by_cases h' : k < l.gives.length
 ·have h1 : (k : Int) < l.gives.length := by omega
  have h6 : IntKind.i64.wrap ((k : Int) + 1) = (k + 1 : Nat) := wrap64 (by omega)
  simp only [go_sem, l21_0, h1, decide_true, builtinA, reduceEqDiff, Nat.reduceBEq, reduceAdd, reduceIte, reduceCtorEq, reduceLeDiff]
  refine wc_forG L.length (fun j => [(4, .ref 1 0), (6, gro (ints (wordsT L k))), (22, .int .i64 l.gives.length), (23, .int .i64 k), (7, .int .i64 k), (8, .int .i64 (manyT (L.take j) k)), (27, .slice (thefts L) L.length .unk), (28, .int .i64 L.length), (29, .int .i64 j)])
   (fun j => ⟨[some (.cells (lineC l)), some (.cells (lnC l L))], k, toksN k⟩) rfl rfl (fun j hj => ?_) ?_
  ·have e : (ints (wordsT L k)).length = k := by simp [wordsT]
   have e2 := gro_bnd (n := 2) (l := ints (wordsT L k)) (by simp)
   rw [e] at e2
   refine ⟨Nat.zero_le _, Nat.zero_le _, by simp [bndTS, AV.bnd, e2], fun i B hB => ?_, fun t ht => toksN_lt ht⟩
   match i, hB with
   | 0, hB => simp at hB; subst hB; simp [Blk.bnd, bndL, AV.bnd]
   | 1, hB => simp at hB; subst hB; simp [Blk.bnd, bndL, AV.bnd]
   | i + 2, hB => simp at hB
  intro j hj I2 hI2
  by_cases hj' : j < L.length
  ·have h2 : (j : Int) < L.length := by omega
   have h3 : 0 ≤ (j : Int) ∧ (j : Int) < L.length := by omega
   have h4 : j * 2 + 2 ≤ (thefts L).length := by rw [thefts_len]; omega
   have h5 := thefts_at L j hj'
   have h7 : IntKind.i64.wrap ((j : Int) + 1) = (j + 1 : Nat) := wrap64 (by omega)
   have hmany := manyT_le (L.take j) k
   rw [List.length_take] at hmany
   have h8 : IntKind.i64.wrap ((manyT (L.take j) k : Int) + 1) = (manyT (L.take j) k + 1 : Nat) := wrap64 (by omega)
   have hI2' := hI2 hj' [some (.cells [sl L[j].1, wS L[j].2])]
   have em : manyT (L.take (j + 1)) k = if L[j].1.contains (k : Int) = true then manyT (L.take j) k + 1 else manyT (L.take j) k := by
    unfold manyT; rw [foldl_take _ _ _ _ hj']
   rw [em] at hI2'
   simp only [go_sem, l21_1, h2, decide_true, h3, h4, h5, reduceEqDiff, Nat.reduceBEq, reduceAdd, reduceIte, reduceCtorEq, reduceLeDiff]
   refine cp n76 (contains_pc L[j].1 (by have := htl _ (List.getElem_mem hj'); show _ < _; omega) k) (SubL.refl _) ?_
   cases hc : L[j].1.contains (k : Int)
   ·rw [hc, if_neg (by decide)] at hI2'
    simp only [go_sem, hc, h7, reduceEqDiff, Nat.reduceBEq, reduceAdd, reduceIte, reduceCtorEq, reduceLeDiff]
    exact hI2'
   ·rw [hc, if_pos rfl] at hI2'
    simp only [go_sem, hc, h7, h8, reduceEqDiff, Nat.reduceBEq, reduceAdd, reduceIte, reduceCtorEq, reduceLeDiff]
    exact hI2'
  ·have h2 : ¬ (j : Int) < L.length := by omega
   rw [List.take_of_length_le (by omega)]
   have hI' := hI h'
   have ew : wordsT L (k + 1) = wordsT L k ++ [wordT L k] := by unfold wordsT; rw [List.range_succ, List.map_append]; rfl
   rw [ew] at hI'
   have hle := manyT_le L k
   have elen : (ints (wordsT L k)).length = k := by simp [wordsT]
   have eapp : ∀ x, ints (wordsT L k) ++ [.int .i64 x] = ints (wordsT L k ++ [x]) := fun x => by simp [ints]
   by_cases m0 : manyT L k = 0
   ·have d0 : decide ((manyT L k : Int) = 0) = true := by rw [m0]; rfl
    have hw : wordT L k = 1 := by unfold wordT; rw [if_pos m0]
    rw [hw] at hI'
    simp only [go_sem, l21_1, h2, decide_false, d0, reduceEqDiff, Nat.reduceBEq, reduceAdd, reduceIte, reduceCtorEq, reduceLeDiff]
    refine sr_gro28 (ints (wordsT L k)) 1 .exact elen (by omega) ?_
    simp only [go_sem, h6, reduceEqDiff, Nat.reduceBEq, reduceAdd, reduceIte, reduceCtorEq, reduceLeDiff]
    rw [eapp]
    have := hI' []
    rw [List.append_nil] at this
    exact this
   ·have d0 : decide ((manyT L k : Int) = 0) = false := by rw [decide_eq_false_iff_not]; omega
    by_cases m1 : manyT L k = L.length
    ·have d1 : decide ((manyT L k : Int) = L.length) = true := by rw [m1]; simp
     have hw : wordT L k = 3 := by unfold wordT; rw [if_neg m0, if_pos m1]
     rw [hw] at hI'
     simp only [go_sem, l21_1, h2, decide_false, d0, d1, builtinA, reduceEqDiff, Nat.reduceBEq, reduceAdd, reduceIte, reduceCtorEq, reduceLeDiff]
     refine sr_gro28 (ints (wordsT L k)) 3 .exact elen (by omega) ?_
     simp only [go_sem, h6, reduceEqDiff, Nat.reduceBEq, reduceAdd, reduceIte, reduceCtorEq, reduceLeDiff]
     rw [eapp]
     have := hI' []
     rw [List.append_nil] at this
     exact this
    ·have d1 : decide ((manyT L k : Int) = L.length) = false := by rw [decide_eq_false_iff_not]; omega
     have hw : wordT L k = 2 := by unfold wordT; rw [if_neg m0, if_neg m1]
     rw [hw] at hI'
     simp only [go_sem, l21_1, h2, decide_false, d0, d1, builtinA, reduceEqDiff, Nat.reduceBEq, reduceAdd, reduceIte, reduceCtorEq, reduceLeDiff]
     refine sr_gro28 (ints (wordsT L k)) 2 .exact elen (by omega) ?_
     simp only [go_sem, h6, reduceEqDiff, Nat.reduceBEq, reduceAdd, reduceIte, reduceCtorEq, reduceLeDiff]
     rw [eapp]
     have := hI' []
     rw [List.append_nil] at this
     exact this
 ·have h1 : ¬ (k : Int) < l.gives.length := by omega
  simp only [go_sem, l21_0, h1, decide_false, Tryz.f21, reduceEqDiff, Nat.reduceBEq, reduceAdd, reduceIte, reduceCtorEq, reduceLeDiff]
  refine ⟨_, rfl, .tuple _ _ rfl fun j x y hx hy => ?_⟩
  match j, hx, hy with
  | 0, hx, hy =>
   simp only [List.getElem?_cons_zero, Option.some.injEq] at hx hy; subst hx; subst hy
   have := gro_frz_same [some (Blk.cells (lineC l)), some (Blk.cells (lnC l L))] (ints (wordsT L k))
   have e : k = l.gives.length := by omega
   subst e
   rw [show (ints (wordsT L l.gives.length)).length = l.gives.length by simp [wordsT]] at this
   exact this
  | 1, hx, hy => simp at hx hy; subst hx; subst hy; exact .same _
  | j + 2, hx, hy => simp at hx
end Go.Av.Fx
end
