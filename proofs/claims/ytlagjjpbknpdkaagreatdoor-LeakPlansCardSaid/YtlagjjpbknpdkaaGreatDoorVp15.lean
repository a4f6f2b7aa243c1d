/- Part 15 of the proof. -/
import Derived.Test.YtlagjjpbknpdkaaGreatDoorVp14
set_option linter.all false
set_option linter.unusedVariables false
set_option linter.unusedSimpArgs false
set_option linter.unusedSectionVars false
open Nat (reduceEqDiff reduceAdd reduceLeDiff)
section
namespace Go.Av.Fx
open Go Go.Av Go.Av.Tb Go.Proofs
def rowsA (m n : Nat) : List AV := (List.range m).map fun i => .sref i 0 n n
def heapR (R : List (List Int)) : List (Option Blk) := R.map fun r => some (.cells (ints r))
@[simp] theorem heapR_len (R : List (List Int)) : (heapR R).length = R.length := by simp [heapR]
@[simp] theorem rowsA_len (m n : Nat) : (rowsA m n).length = m := by simp [rowsA]
theorem rowsA_get {m n i : Nat} (h : i < m) : (rowsA m n)[i]? = some (.sref i 0 n n) := by
 simp [rowsA, List.getElem?_range h]
theorem heapR_get {R : List (List Int)} {g : List (Option Blk)} {i : Nat} (h : i < R.length) : (heapR R ++ g)[i]? = some (some (.cells (ints R[i]))) := by
 rw [List.getElem?_append_left (by simpa using h)]
 simp [heapR, h]
theorem cellsAt_R {R : List (List Int)} {g : List (Option Blk)} {i : Nat} (h : i < R.length) : cellsAt (heapR R ++ g) i = some (ints R[i]) := by
 unfold cellsAt; rw [heapR_get h]
theorem setH_R {g : List (Option Blk)} {r : List Int} : ∀ {R : List (List Int)} {i : Nat}, i < R.length → setH (heapR R ++ g) i (.cells (ints r)) = heapR (R.set i r) ++ g
 | [], i, h => by simp at h
 | x :: R, 0, h => rfl
 | x :: R, i + 1, h => by
  have := setH_R (g := g) (r := r) (R := R) (i := i) (by simpa using h)
  show _ :: setH (heapR R ++ g) i _ = _
  rw [this]; rfl
theorem ints_set (l : List Int) (j : Nat) (v : Int) : (ints l).set j (.int .i64 v) = ints (l.set j v) := by simp [ints, List.map_set]
theorem heapR_snoc (R : List (List Int)) (r : List Int) : heapR R ++ [some (.cells (ints r))] = heapR (R ++ [r]) := by simp [heapR]
theorem rowsA_snoc (m n : Nat) : rowsA m n ++ [.sref m 0 n n] = rowsA (m + 1) n := by simp [rowsA, List.range_succ]
theorem cellsAt_last {R : List (List Int)} {l : List AV} {n : Nat} (h : R.length = n) : cellsAt (heapR R ++ [some (.cells l)]) n = some l := by
 unfold cellsAt
 rw [List.getElem?_append_right (by simp [h]), heapR_len, h, Nat.sub_self]; rfl
theorem setH_last {B : Blk} {x : Option Blk} : ∀ {R : List (List Int)} {n : Nat}, R.length = n → setH (heapR R ++ [x]) n B = heapR R ++ [some B]
 | [], n, h => by subst h; rfl
 | r :: R, n, h => by
  subst h
  have := setH_last (B := B) (x := x) (R := R) rfl
  show _ :: setH (heapR R ++ [x]) R.length B = _
  rw [this]; rfl
theorem rowsA_bnd {N K n : Nat} : ∀ {m : Nat}, m ≤ N → bndL N K (rowsA m n) = true
 | 0, _ => rfl
 | m + 1, h => by
  rw [← rowsA_snoc, bndL_append, rowsA_bnd (by omega)]
  simp [bndL, AV.bnd]; omega
theorem heapR_bnd {R : List (List Int)} {N K : Nat} {i : Nat} {B : Blk} (h : (heapR R)[i]? = some (some B)) : B.bnd N K = true := by
 simp only [heapR, List.getElem?_map, Option.map_eq_some_iff] at h
 obtain ⟨r, _, h2⟩ := h
 cases h2
 simp [Blk.bnd]
section
variable {E : Env} {K : TS → St → Prop} {n : Nat} {rest : List MO} {hs : List Bool} {b : St} {ts : TS} {S : St} (d : Option Nat) (args : Array Operand) (tys : Array TypeId)
@[go_sem] theorem y_min : preM E K (n + 1) (⟨none, d, .call { callee := .builtin .min, args := args, argTypes := tys }⟩ :: rest) [] b ts S = sq (fun v S' => preM E K n rest [] b (setT ts d v) S') ⟨⟩ (astepO E.T b ts (.call { callee := .builtin .min, args := args, argTypes := tys })) S := y_builtin d .min args tys rfl
@[go_sem] theorem y_max : preM E K (n + 1) (⟨none, d, .call { callee := .builtin .max, args := args, argTypes := tys }⟩ :: rest) [] b ts S = sq (fun v S' => preM E K n rest [] b (setT ts d v) S') ⟨⟩ (astepO E.T b ts (.call { callee := .builtin .max, args := args, argTypes := tys })) S := y_builtin d .max args tys rfl
@[go_sem] theorem y_len : preM E K (n + 1) (⟨none, d, .call { callee := .builtin .len, args := args, argTypes := tys }⟩ :: rest) [] b ts S = sq (fun v S' => preM E K n rest [] b (setT ts d v) S') ⟨⟩ (astepO E.T b ts (.call { callee := .builtin .len, args := args, argTypes := tys })) S := y_builtin d .len args tys rfl
@[go_sem] theorem y_app : preM E K (n + 1) (⟨none, d, .call { callee := .builtin .append, args := args, argTypes := tys }⟩ :: rest) [] b ts S = sq (fun v S' => preM E K n rest [] b (setT ts d v) S') ⟨⟩ (astepO E.T b ts (.call { callee := .builtin .append, args := args, argTypes := tys })) S := y_builtin d .append args tys rfl
end
end Go.Av.Fx
end
section
namespace Go.Fw
abbrev Mat := List (List Int)
theorem pow_le {b : Int} (hb : 1 ≤ b) (m : Nat) : ∀ {n : Nat}, m ≤ n → b ^ m ≤ b ^ n
 | n, h => by
  induction n with
  | zero => rw [Nat.le_zero.1 h]; exact Int.le_refl _
  | succ n ih =>
   by_cases e : m = n + 1
   ·rw [e]; exact Int.le_refl _
   ·have h1 := ih (by omega)
    rw [Int.pow_succ]
    have h2 : b ^ n * 1 ≤ b ^ n * b := Int.mul_le_mul_of_nonneg_left hb (Int.le_of_lt (Int.pow_pos (by omega)))
    rw [Int.mul_one] at h2
    exact Int.le_trans h1 h2
def ent (W : Mat) (a b : Nat) : Int := (W.getD a []).getD b 0
def put (W : Mat) (a b : Nat) (v : Int) : Mat := W.set a ((W.getD a []).set b v)
def Sq (n : Nat) (W : Mat) : Prop := W.length = n ∧ ∀ (i : Nat) (r : List Int), W[i]? = some r → r.length = n
theorem Sq.set {n : Nat} {R : Mat} (h : Sq n R) (i : Nat) {r : List Int} (hr : i < n → r.length = n) : Sq n (R.set i r) := by
 refine ⟨by simp [h.1], fun j x hx => ?_⟩
 rw [List.getElem?_set] at hx
 split at hx
 ·split at hx
  ·cases hx; exact hr (by rw [← h.1]; assumption)
  ·cases hx
 ·exact h.2 j x hx
theorem Sq.getD {n : Nat} {R : Mat} (h : Sq n R) {i : Nat} (hi : i < n) : (R.getD i []).length = n := by
 have hl : i < R.length := by rw [h.1]; exact hi
 rw [List.getD_eq_getElem?_getD, List.getElem?_eq_getElem hl]
 exact h.2 i _ (List.getElem?_eq_getElem hl)
theorem Sq.put {n : Nat} {W : Mat} (h : Sq n W) (a b : Nat) (v : Int) : Sq n (put W a b v) :=
 h.set a fun ha => by rw [List.length_set]; exact h.getD ha
theorem ent_put {n : Nat} {W : Mat} (h : Sq n W) {a b : Nat} (ha : a < n) (hb : b < n) (v : Int) (i j : Nat) :
  ent (Fw.put W a b v) i j = if i = a ∧ j = b then v else ent W i j := by
 unfold ent Fw.put
 have hl : a < W.length := by rw [h.1]; exact ha
 by_cases hi : i = a
 ·subst hi
  have e : (W.set i ((W.getD i []).set b v)).getD i [] = (W.getD i []).set b v := by
   rw [List.getD_eq_getElem?_getD, List.getElem?_set_self hl]; rfl
  rw [e]
  have hlen := h.getD ha
  by_cases hj : j = b
  ·subst hj
   rw [if_pos ⟨rfl, rfl⟩, List.getD_eq_getElem?_getD, List.getElem?_set_self (by rw [hlen]; exact hb)]; rfl
  ·rw [if_neg (fun x => hj x.2), List.getD_eq_getElem?_getD, List.getElem?_set_ne (fun x => hj x.symm), ← List.getD_eq_getElem?_getD]
 ·rw [if_neg (fun x => hi x.1)]
  have e : (W.set a ((W.getD a []).set b v)).getD i [] = W.getD i [] := by
   rw [List.getD_eq_getElem?_getD, List.getElem?_set_ne (fun x => hi x.symm), ← List.getD_eq_getElem?_getD]
  rw [e]
def upd (far : Int) (c a : Nat) (W : Mat) (b : Nat) : Mat :=
 if ent W a c < far ∧ ent W c b < far then put W a b (min (ent W a b) (ent W a c + ent W c b)) else W
def row (far : Int) (n c : Nat) (W : Mat) (a : Nat) : Mat := (List.range n).foldl (upd far c a) W
def stage (far : Int) (n : Nat) (W : Mat) (c : Nat) : Mat := (List.range n).foldl (row far n c) W
def upto (far : Int) (n k : Nat) (W : Mat) : Mat := (List.range k).foldl (stage far n) W
theorem fold_ind {α : Type} (P : Nat → α → Prop) (f : α → Nat → α) (z : α) : ∀ (n : Nat), P 0 z → (∀ k, k < n → ∀ w, P k w → P (k + 1) (f w k)) → P n ((List.range n).foldl f z)
 | 0, h0, _ => h0
 | n + 1, h0, hs => by
  rw [List.range_succ, List.foldl_append]
  exact hs n (Nat.lt_succ_self n) _ (fold_ind P f z n h0 fun k hk => hs k (Nat.lt_succ_of_lt hk))
theorem fold_succ {α : Type} (f : α → Nat → α) (z : α) (n : Nat) : (List.range (n + 1)).foldl f z = f ((List.range n).foldl f z) n := by
 rw [List.range_succ, List.foldl_append]; rfl
theorem Sq.upd {n : Nat} {W : Mat} (h : Sq n W) (far : Int) (c a b : Nat) : Sq n (upd far c a W b) := by
 unfold Fw.upd; split
 ·exact h.put _ _ _
 ·exact h
theorem Sq.row {n : Nat} {W : Mat} (h : Sq n W) (far : Int) (m c a : Nat) : Sq n (row far m c W a) :=
 fold_ind (fun _ w => Sq n w) _ _ _ h fun _ _ _ hw => hw.upd _ _ _ _
theorem Sq.stage {n : Nat} {W : Mat} (h : Sq n W) (far : Int) (m c : Nat) : Sq n (stage far m W c) :=
 fold_ind (fun _ w => Sq n w) _ _ _ h fun _ _ _ hw => hw.row _ _ _ _
theorem Sq.upto {n : Nat} {W : Mat} (h : Sq n W) (far : Int) (m k : Nat) : Sq n (upto far m k W) :=
 fold_ind (fun _ w => Sq n w) _ _ _ h fun _ _ _ hw => hw.stage _ _ _
theorem ent_upd {n : Nat} {W : Mat} (h : Sq n W) {a b : Nat} (ha : a < n) (hb : b < n) (far : Int) (c i j : Nat) :
  ent (upd far c a W b) i j = if (i = a ∧ j = b) ∧ ent W a c < far ∧ ent W c b < far then min (ent W a b) (ent W a c + ent W c b) else ent W i j := by
 unfold upd
 by_cases hg : ent W a c < far ∧ ent W c b < far
 ·rw [if_pos hg, ent_put h ha hb]
  by_cases hij : i = a ∧ j = b
  ·rw [if_pos hij, if_pos ⟨hij, hg⟩]
  ·rw [if_neg hij, if_neg (fun x => hij x.1)]
 ·rw [if_neg hg, if_neg (fun x => hg x.2)]
theorem upd_le {n : Nat} {W : Mat} (h : Sq n W) {a b : Nat} (ha : a < n) (hb : b < n) (far : Int) (c i j : Nat) : ent (upd far c a W b) i j ≤ ent W i j := by
 rw [ent_upd h ha hb]
 split
 ·rename_i hh
  obtain ⟨⟨rfl, rfl⟩, _⟩ := hh
  exact Int.min_le_left _ _
 ·exact Int.le_refl _
theorem row_le {n : Nat} {W : Mat} (h : Sq n W) {a : Nat} (ha : a < n) (far : Int) (c i j : Nat) : ent (row far n c W a) i j ≤ ent W i j :=
 (fold_ind (fun _ w => Sq n w ∧ ent w i j ≤ ent W i j) _ _ n ⟨h, Int.le_refl _⟩ fun k hk w hw => ⟨hw.1.upd _ _ _ _, Int.le_trans (upd_le hw.1 ha hk far c i j) hw.2⟩).2
theorem stage_le {n : Nat} {W : Mat} (h : Sq n W) (far : Int) (c i j : Nat) : ent (stage far n W c) i j ≤ ent W i j :=
 (fold_ind (fun _ w => Sq n w ∧ ent w i j ≤ ent W i j) _ _ n ⟨h, Int.le_refl _⟩ fun k hk w hw => ⟨hw.1.row _ _ _ _, Int.le_trans (row_le hw.1 hk far c i j) hw.2⟩).2
theorem upto_le {n : Nat} {W : Mat} (h : Sq n W) (far : Int) (k i j : Nat) : ent (upto far n k W) i j ≤ ent W i j :=
 (fold_ind (fun _ w => Sq n w ∧ ent w i j ≤ ent W i j) _ _ k ⟨h, Int.le_refl _⟩ fun k hk w hw => ⟨hw.1.stage _ _ _, Int.le_trans (stage_le hw.1 far k i j) hw.2⟩).2
theorem upto_mono {n : Nat} {W : Mat} (h : Sq n W) (far : Int) (k i j : Nat) : ∀ m, ent (upto far n (k + m) W) i j ≤ ent (upto far n k W) i j
 | 0 => Int.le_refl _
 | m + 1 => by
  have e : upto far n (k + (m + 1)) W = stage far n (upto far n (k + m) W) (k + m) := fold_succ _ _ _
  rw [e]
  exact Int.le_trans (stage_le (h.upto far n _) far _ i j) (upto_mono h far k i j m)
def step (far : Int) (c : Nat) (W : Mat) (i j : Nat) : Int :=
 if ent W i c < far ∧ ent W c j < far then min (ent W i j) (ent W i c + ent W c j) else ent W i j
theorem step_col {far : Int} {c : Nat} {W : Mat} (h0 : ent W c c = 0) (i : Nat) : step far c W i c = ent W i c := by
 unfold step; rw [h0, Int.add_zero, Int.min_self]; split <;> rfl
theorem step_row {far : Int} {c : Nat} {W : Mat} (h0 : ent W c c = 0) (j : Nat) : step far c W c j = ent W c j := by
 unfold step; rw [h0, Int.zero_add, Int.min_self]; split <;> rfl
theorem row_ent {n : Nat} {W w : Mat} {far : Int} {c a : Nat} (hc : c < n) (ha : a < n) (h0 : ent W c c = 0) (hs : Sq n w)
  (hw : ∀ i j, i < n → j < n → ent w i j = if i < a then step far c W i j else ent W i j) :
  ∀ i j, i < n → j < n → ent (row far n c w a) i j = if i < a + 1 then step far c W i j else ent W i j := by
 have key := (fold_ind (fun b v => Sq n v ∧ ∀ i j, i < n → j < n → ent v i j = if i < a ∨ (i = a ∧ j < b) then step far c W i j else ent W i j) (upd far c a) w n
  ⟨hs, fun i j hi hj => by rw [hw i j hi hj]; simp⟩ ?_).2
 ·intro i j hi hj
  have := key i j hi hj
  unfold row
  rw [this]
  by_cases h : i < a + 1
  ·rw [if_pos h, if_pos (by omega)]
  ·rw [if_neg h, if_neg (by omega)]
 ·rintro b hb v ⟨hv, he⟩
  refine ⟨hv.upd _ _ _ _, fun i j hi hj => ?_⟩
  have e1 : ent v a c = ent W a c := by
   rw [he a c ha hc, step_col h0]; split <;> rfl
  have e2 : ent v c b = ent W c b := by
   rw [he c b hc hb, step_row h0]; split <;> rfl
  have e3 : ent v a b = ent W a b := by
   rw [he a b ha hb, if_neg (by omega)]
  rw [ent_upd hv ha hb, e1, e2, e3]
  by_cases hij : i = a ∧ j = b
  ·obtain ⟨rfl, rfl⟩ := hij
   rw [if_pos (show i < i ∨ i = i ∧ j < j + 1 by omega)]
   unfold step
   by_cases hg : ent W i c < far ∧ ent W c j < far
   ·rw [if_pos ⟨⟨rfl, rfl⟩, hg⟩, if_pos hg]
   ·rw [if_neg (fun x => hg x.2), if_neg hg, e3]
  ·rw [if_neg (fun x => hij x.1), he i j hi hj]
   by_cases h : i < a ∨ i = a ∧ j < b
   ·rw [if_pos h, if_pos (by omega)]
   ·rw [if_neg h, if_neg (by omega)]
theorem stage_ent {n : Nat} {W : Mat} {far : Int} {c : Nat} (hc : c < n) (h0 : ent W c c = 0) (hs : Sq n W) :
  ∀ i j, i < n → j < n → ent (stage far n W c) i j = step far c W i j := by
 have key := (fold_ind (fun a v => Sq n v ∧ ∀ i j, i < n → j < n → ent v i j = if i < a then step far c W i j else ent W i j) (row far n c) W n
  ⟨hs, fun i j hi hj => by simp⟩ ?_).2
 ·intro i j hi hj
  have := key i j hi hj
  rw [if_pos hi] at this
  exact this
 ·rintro a ha v ⟨hv, he⟩
  exact ⟨hv.row _ _ _ _, row_ent hc ha h0 hv he⟩
structure Tri (far : Int) (n k : Nat) (U : Int) (W : Mat) : Prop where
 small : ∀ i j, i < n → j < n → ent W i j < far → ent W i j ≤ U
 tri : ∀ c, c < k → ∀ i j, i < n → j < n → ent W i c < far → ent W c j < far → ent W i j ≤ ent W i c + ent W c j
theorem Tri.stage {far : Int} {n k : Nat} {U : Int} {W : Mat} (h : Tri far n k U W) (hs : Sq n W) (hk : k < n) (h0 : ∀ i, i < n → ent W i i = 0)
  (hU : 0 ≤ U) (hf : 2 * U < far) : Tri far n (k + 1) (2 * U) (stage far n W k) := by
 have he := stage_ent (far := far) hk (h0 k hk) hs
 refine ⟨fun i j hi hj hlt => ?_, fun c hc i j hi hj h1 h2 => ?_⟩
 ·rw [he i j hi hj] at hlt ⊢
  unfold step at hlt ⊢
  split
  ·rename_i hg
   have a1 := h.small i k hi hk hg.1
   have a2 := h.small k j hk hj hg.2
   have := Int.min_le_right (ent W i j) (ent W i k + ent W k j)
   omega
  ·rename_i hg
   rw [if_neg hg] at hlt
   have := h.small i j hi hj hlt
   omega
 ·have hcn : c < n := by omega
  rw [he i c hi hcn] at h1 ⊢
  rw [he c j hcn hj] at h2 ⊢
  rw [he i j hi hj]
  by_cases hck : c = k
  ·subst hck
   rw [step_col (h0 c hcn)] at h1 ⊢
   rw [step_row (h0 c hcn)] at h2 ⊢
   unfold step
   rw [if_pos ⟨h1, h2⟩]
   exact Int.min_le_right _ _
  ·have hc' : c < k := by omega
   have t1 : ∀ i j, i < n → j < n → ent W i c < far → ent W c j < far → ent W i j ≤ ent W i c + ent W c j := h.tri c hc'
   have hb : ∀ i j, i < n → j < n → ent W i c < far → ent W c j < far → ent W i j < far := fun i j hi hj x y => by
    have := t1 i j hi hj x y
    have := h.small i c hi hcn x
    have := h.small c j hcn hj y
    omega
   have sle : ∀ i j, step far k W i j ≤ ent W i j := fun i j => by
    unfold step; split
    ·exact Int.min_le_left _ _
    ·exact Int.le_refl _
   have sle2 : ∀ i j, ent W i k < far → ent W k j < far → step far k W i j ≤ ent W i k + ent W k j := fun i j x y => by
    unfold step; rw [if_pos ⟨x, y⟩]; exact Int.min_le_right _ _
   have cs : ∀ i j, step far k W i j = ent W i j ∨ (ent W i k < far ∧ ent W k j < far ∧ step far k W i j = ent W i k + ent W k j) := fun i j => by
    unfold step; split
    ·rename_i hg
     rcases Int.le_total (ent W i j) (ent W i k + ent W k j) with q | q
     ·left; exact Int.min_eq_left q
     ·right; exact ⟨hg.1, hg.2, Int.min_eq_right q⟩
    ·left; rfl
   rcases cs i c with e1 | ⟨f1, f2, e1⟩ <;> rcases cs c j with e2 | ⟨g1, g2, e2⟩
   ·rw [e1] at h1 ⊢; rw [e2] at h2 ⊢
    exact Int.le_trans (sle i j) (t1 i j hi hj h1 h2)
   ·rw [e1] at h1 ⊢; rw [e2]
    have := t1 i k hi hk h1 g1
    have := sle2 i j (hb i k hi hk h1 g1) g2
    omega
   ·rw [e2] at h2 ⊢; rw [e1]
    have := t1 k j hk hj f2 h2
    have := sle2 i j f1 (hb k j hk hj f2 h2)
    omega
   ·rw [e1, e2]
    have := t1 k k hk hk f2 g1
    rw [h0 k hk] at this
    have := sle2 i j f1 g2
    omega
theorem upto_tri {far : Int} {n : Nat} {U : Int} {W : Mat} (hs : Sq n W) (h0 : ∀ i, i < n → ent W i i = 0) (hU : 0 ≤ U) (hf : 2 ^ (n + 1) * U < far)
  (hsm : ∀ i j, i < n → j < n → ent W i j < far → ent W i j ≤ U) (hd : ∀ i, i < n → 0 ≤ ent (upto far n n W) i i) :
  ∀ k, k ≤ n → Tri far n k (2 ^ k * U) (upto far n k W)
 | 0, _ => ⟨fun i j hi hj h => by
  have e : upto far n 0 W = W := rfl
  rw [e] at h ⊢
  have := hsm i j hi hj h
  simpa using this, fun c hc => absurd hc (Nat.not_lt_zero _)⟩
 | k + 1, hk => by
  have ih := upto_tri hs h0 hU hf hsm hd k (by omega)
  have hz : ∀ i, i < n → ent (upto far n k W) i i = 0 := fun i hi => by
   have a1 := upto_le hs far k i i
   rw [h0 i hi] at a1
   have a2 := upto_mono hs far k i i (n - k)
   rw [show k + (n - k) = n by omega] at a2
   have := hd i hi
   omega
  have hp : (2 : Int) ^ (k + 1) ≤ 2 ^ (n + 1) := pow_le (by decide) _ (by omega)
  have hU' : 0 ≤ 2 ^ k * U := Int.mul_nonneg (Int.le_of_lt (Int.pow_pos (by decide))) hU
  have h2 : 2 * (2 ^ k * U) = 2 ^ (k + 1) * U := by rw [Int.pow_succ, Int.mul_comm (2 ^ k) 2, Int.mul_assoc]
  have := ih.stage (hs.upto far n k) (by omega) hz hU' (by
   rw [h2]
   exact Int.lt_of_le_of_lt (Int.mul_le_mul_of_nonneg_right hp hU) hf)
  rw [h2] at this
  have e : upto far n (k + 1) W = Fw.stage far n (upto far n k W) k := fold_succ _ _ _
  rw [e]; exact this
def Obeys (far : Int) (n : Nat) (W : Mat) (x : Nat → Int) : Prop := ∀ i j, i < n → j < n → ent W i j < far → x j - x i ≤ ent W i j
theorem Obeys.upd {far : Int} {n : Nat} {W : Mat} {x : Nat → Int} (h : Obeys far n W x) (hs : Sq n W) {a b c : Nat} (ha : a < n) (hb : b < n) (hc : c < n) : Obeys far n (upd far c a W b) x := by
 intro i j hi hj hlt
 rw [ent_upd hs ha hb] at hlt ⊢
 split
 ·rename_i hg
  rw [if_pos hg] at hlt
  obtain ⟨⟨rfl, rfl⟩, g1, g2⟩ := hg
  have a1 := h i c hi hc g1
  have a2 := h c j hc hj g2
  rcases Int.le_total (ent W i j) (ent W i c + ent W c j) with q | q
  ·rw [Int.min_eq_left q] at hlt ⊢; exact h i j hi hj hlt
  ·rw [Int.min_eq_right q]; omega
 ·rename_i hg
  rw [if_neg hg] at hlt
  exact h i j hi hj hlt
theorem Obeys.upto {far : Int} {n : Nat} {W : Mat} {x : Nat → Int} (h : Obeys far n W x) (hs : Sq n W) {k : Nat} (hk : k ≤ n) : Obeys far n (upto far n k W) x :=
 (fold_ind (fun _ w => Sq n w ∧ Obeys far n w x) _ _ k ⟨hs, h⟩ fun c hc w hw => fold_ind (fun _ w => Sq n w ∧ Obeys far n w x) _ _ n hw fun a ha w hw =>
  fold_ind (fun _ w => Sq n w ∧ Obeys far n w x) _ _ n hw fun b hb w hw => ⟨hw.1.upd _ _ _ _, hw.2.upd hw.1 ha hb (by omega)⟩).2
structure Low (n c a : Nat) (X : Int) (W : Mat) : Prop where
 all : ∀ i j, i < n → j < n → -(7 * X) ≤ ent W i j
 new : ∀ i j, a ≤ i → i < n → j < n → -X ≤ ent W i j
 own : ∀ j, j < n → -(3 * X) ≤ ent W c j
structure LowIn (n c a b : Nat) (X : Int) (W : Mat) : Prop where
 all : ∀ i j, i < n → j < n → -(7 * X) ≤ ent W i j
 new : ∀ i j, a + 1 ≤ i → i < n → j < n → -X ≤ ent W i j
 own : ∀ j, j < n → -(3 * X) ≤ ent W c j
 here : ∀ j, b ≤ j → j < n → -X ≤ ent W a j
 col : -(4 * X) ≤ ent W a c
 diag : a = c → -(2 * X) ≤ ent W a c
theorem Low.to {n c a : Nat} {X : Int} {W : Mat} (h : Low n c a X W) (hX : 0 ≤ X) (ha : a < n) (hc : c < n) : LowIn n c a 0 X W :=
 ⟨h.all, fun i j h1 => h.new i j (by omega), h.own, fun j _ hj => h.new a j (Nat.le_refl _) ha hj, by have := h.new a c (Nat.le_refl _) ha hc; omega, fun _ => by have := h.new a c (Nat.le_refl _) ha hc; omega⟩
theorem LowIn.upd {n c a b : Nat} {X : Int} {W : Mat} (h : LowIn n c a b X W) (hX : 0 ≤ X) (hs : Sq n W) (ha : a < n) (hb : b < n) (hc : c < n) (far : Int) : LowIn n c a (b + 1) X (upd far c a W b) := by
 have e := ent_upd hs ha hb far c
 have hv : -(7 * X) ≤ ent W a c + ent W c b := by
  have := h.col; have := h.own b hb; omega
 have hv3 : a = c → -(3 * X) ≤ ent W a c + ent W c b := fun q => by
  subst q
  have := h.diag rfl; have := h.here b (Nat.le_refl _) hb; omega
 have hvc : b = c → -(4 * X) ≤ ent W a c + ent W c b := fun q => by
  subst q
  have := h.here b (Nat.le_refl _) hb; have := h.own b hb; omega
 have hvd : a = c → b = c → -(2 * X) ≤ ent W a c + ent W c b := fun q r => by
  subst q; subst r
  have := h.here b (Nat.le_refl _) hb; omega
 refine ⟨fun i j hi hj => ?_, fun i j h1 hi hj => ?_, fun j hj => ?_, fun j h1 hj => ?_, ?_, fun q => ?_⟩
 ·rw [e]; split
  ·rename_i g; obtain ⟨⟨rfl, rfl⟩, _⟩ := g
   have := h.all i j hi hj; omega
  ·exact h.all i j hi hj
 ·rw [e, if_neg (by omega)]; exact h.new i j h1 hi hj
 ·rw [e]; split
  ·rename_i g; obtain ⟨⟨q, rfl⟩, _⟩ := g
   have := hv3 q.symm; have := h.own j hj; subst q; omega
  ·exact h.own j hj
 ·rw [e, if_neg (by omega)]; exact h.here j (by omega) hj
 ·rw [e]; split
  ·rename_i g; obtain ⟨⟨_, q⟩, _⟩ := g
   have := hvc q.symm; have := h.col; subst q; omega
  ·exact h.col
 ·rw [e]; split
  ·rename_i g; obtain ⟨⟨_, r⟩, _⟩ := g
   have := hvd q r.symm; have := h.diag q; subst r; omega
  ·exact h.diag q
theorem LowIn.back {n c a : Nat} {X : Int} {W : Mat} (h : LowIn n c a n X W) : Low n c (a + 1) X W := ⟨h.all, fun i j h1 => h.new i j h1, h.own⟩
theorem Low.start {n : Nat} {X : Int} {W : Mat} (hX : 0 ≤ X) (h : ∀ i j, i < n → j < n → -X ≤ ent W i j) {c : Nat} (hc : c < n) : Low n c 0 X W :=
 ⟨fun i j hi hj => by have := h i j hi hj; omega, fun i j _ hi hj => h i j hi hj, fun j hj => by have := h c j hc hj; omega⟩
theorem lowIn_at {n c a : Nat} {X : Int} {W : Mat} (hX : 0 ≤ X) (hs : Sq n W) (ha : a < n) (hc : c < n) (far : Int) (h : LowIn n c a 0 X W) : ∀ b, b ≤ n → LowIn n c a b X ((List.range b).foldl (upd far c a) W)
 | 0, _ => h
 | b + 1, hb => by
  rw [fold_succ]
  exact (lowIn_at hX hs ha hc far h b (by omega)).upd hX (fold_ind (fun _ w => Sq n w) _ _ _ hs fun _ _ _ hw => hw.upd _ _ _ _) ha (by omega) hc far
theorem low_at {n c : Nat} {X : Int} {W : Mat} (hX : 0 ≤ X) (hs : Sq n W) (hc : c < n) (far : Int) (h : ∀ i j, i < n → j < n → -X ≤ ent W i j) : ∀ a, a ≤ n → Low n c a X ((List.range a).foldl (row far n c) W)
 | 0, _ => Low.start hX h hc
 | a + 1, ha => by
  rw [fold_succ]
  exact (lowIn_at hX (fold_ind (fun _ w => Sq n w) _ _ _ hs fun _ _ _ hw => hw.row _ _ _ _) (by omega) hc far ((low_at hX hs hc far h a (by omega)).to hX (by omega) hc) n (Nat.le_refl _)).back
theorem low_upto {n : Nat} {X : Int} {W : Mat} (hX : 0 ≤ X) (hs : Sq n W) (far : Int) (h : ∀ i j, i < n → j < n → -X ≤ ent W i j) : ∀ k, k ≤ n → ∀ i j, i < n → j < n → -(7 ^ k * X) ≤ ent (upto far n k W) i j
 | 0, _ => fun i j hi hj => by
  have e : upto far n 0 W = W := rfl
  rw [e]
  have := h i j hi hj
  simpa using this
 | k + 1, hk => fun i j hi hj => by
  have hp : (0 : Int) ≤ 7 ^ k * X := Int.mul_nonneg (Int.le_of_lt (Int.pow_pos (by decide))) hX
  have := (low_at hp (hs.upto far n k) (show k < n by omega) far (low_upto hX hs far h k (by omega)) n (Nat.le_refl _)).all i j hi hj
  have e : upto far n (k + 1) W = stage far n (upto far n k W) k := fold_succ _ _ _
  rw [e, Int.pow_succ, Int.mul_comm (7 ^ k) 7, Int.mul_assoc]
  exact this
theorem low_in {n : Nat} {X : Int} {W : Mat} (hX : 0 ≤ X) (hs : Sq n W) (far : Int) (h : ∀ i j, i < n → j < n → -X ≤ ent W i j) {c a b : Nat} (hc : c < n) (ha : a < n) (hb : b ≤ n) :
  ∀ i j, i < n → j < n → -(7 ^ n * X) ≤ ent ((List.range b).foldl (upd far c a) ((List.range a).foldl (row far n c) (upto far n c W))) i j := by
 intro i j hi hj
 have hp : (0 : Int) ≤ 7 ^ c * X := Int.mul_nonneg (Int.le_of_lt (Int.pow_pos (by decide))) hX
 have hq := hs.upto far n c
 have := (lowIn_at hp (fold_ind (fun _ w => Sq n w) _ _ _ hq fun _ _ _ hw => hw.row _ _ _ _) ha hc far ((low_at hp hq hc far (low_upto hX hs far h c (by omega)) a (by omega)).to hp ha hc) b hb).all i j hi hj
 have hm : (7 : Int) ^ (c + 1) ≤ 7 ^ n := pow_le (by decide) _ (by omega)
 have hm' := Int.mul_le_mul_of_nonneg_right hm hX
 rw [Int.pow_succ, Int.mul_comm (7 ^ c) 7, Int.mul_assoc] at hm'
 refine Int.le_trans ?_ this
 omega
theorem high_in {n : Nat} {W : Mat} (hs : Sq n W) (far : Int) {c a b : Nat} (ha : a ≤ n) (hb : b ≤ n) (i j : Nat) (hab : b = 0 ∨ a < n) :
  ent ((List.range b).foldl (upd far c a) ((List.range a).foldl (row far n c) (upto far n c W))) i j ≤ ent W i j := by
 have h1 := upto_le hs far c i j
 have h2 := fold_ind (fun _ w => Sq n w ∧ ent w i j ≤ ent W i j) (row far n c) (upto far n c W) a ⟨hs.upto far n c, h1⟩ fun k hk w hw => ⟨hw.1.row _ _ _ _, Int.le_trans (row_le hw.1 (by omega) far c i j) hw.2⟩
 exact (fold_ind (fun _ w => Sq n w ∧ ent w i j ≤ ent W i j) (upd far c a) _ b h2 fun k hk w hw => ⟨hw.1.upd _ _ _ _, Int.le_trans (upd_le hw.1 (by omega) (by omega) far c i j) hw.2⟩).2
def closed (far : Int) (n : Nat) (W : Mat) : Option Mat :=
 if (List.range n).all fun i => decide (0 ≤ ent (upto far n n W) i i) then some (upto far n n W) else none
theorem closed_none {far : Int} {n : Nat} {W : Mat} (hs : Sq n W) (hf : 0 < far) (h : closed far n W = none) (x : Nat → Int) : ¬ Obeys far n W x := by
 intro hx
 unfold closed at h
 split at h
 ·cases h
 ·rename_i hn
  apply hn
  rw [List.all_eq_true]
  intro i hi
  have hi' := List.mem_range.1 hi
  rw [decide_eq_true_iff]
  have ho := hx.upto hs (Nat.le_refl n)
  by_cases hlt : ent (upto far n n W) i i < far
  ·have := ho i i hi' hi' hlt; omega
  ·omega
structure Closed (far : Int) (n : Nat) (W V : Mat) : Prop where
 sq : Sq n V
 le : ∀ i j, ent V i j ≤ ent W i j
 tri : ∀ i k j, i < n → k < n → j < n → ent V i k < far → ent V k j < far → ent V i j ≤ ent V i k + ent V k j ∧ ent V i j < far
 diag : ∀ i, i < n → ent V i i = 0
 obeys : ∀ x, Obeys far n W x → Obeys far n V x
theorem closed_some {far : Int} {n : Nat} {U : Int} {W V : Mat} (hs : Sq n W) (h0 : ∀ i, i < n → ent W i i = 0) (hU : 0 ≤ U) (hf : 2 ^ (n + 1) * U < far)
  (hsm : ∀ i j, i < n → j < n → ent W i j < far → ent W i j ≤ U) (h : closed far n W = some V) : Closed far n W V := by
 unfold closed at h
 split at h
 ·rename_i hall
  simp only [Option.some.injEq] at h
  subst h
  rw [List.all_eq_true] at hall
  have hd : ∀ i, i < n → 0 ≤ ent (upto far n n W) i i := fun i hi => by simpa using hall i (List.mem_range.2 hi)
  have ht := upto_tri hs h0 hU hf hsm hd n (Nat.le_refl _)
  refine ⟨hs.upto far n n, fun i j => upto_le hs far n i j, fun i k j hi hk hj h1 h2 => ?_, fun i hi => ?_, fun x hx => hx.upto hs (Nat.le_refl _)⟩
  ·have t := ht.tri k hk i j hi hj h1 h2
   have s1 := ht.small i k hi hk h1
   have s2 := ht.small k j hk hj h2
   refine ⟨t, ?_⟩
   rw [Int.pow_succ, Int.mul_comm (2 ^ n) 2, Int.mul_assoc] at hf
   omega
  ·have := upto_le hs far n i i
   rw [h0 i hi] at this
   have := hd i hi
   omega
 ·cases h
end Go.Fw
end
section
namespace Go.Fw
structure Bd where
 a : Nat
 b : Nat
 m : Int
def Bd.holds (c : Bd) (x : Nat → Int) : Prop := x c.b - x c.a ≤ c.m
def addc (W : Mat) (c : Bd) : Mat := put W c.a c.b (min (ent W c.a c.b) c.m)
structure Good (far U B : Int) (n : Nat) (W : Mat) : Prop where
 sq : Sq n W
 diag : ∀ i, i < n → ent W i i = 0
 high : ∀ i j, i < n → j < n → ent W i j ≤ far
 small : ∀ i j, i < n → j < n → ent W i j < far → ent W i j ≤ U
 low : ∀ i j, i < n → j < n → -B ≤ ent W i j
structure Bd.Ok (U B : Int) (n : Nat) (c : Bd) : Prop where
 a : c.a < n
 b : c.b < n
 ne : c.a ≠ c.b
 low : -B ≤ c.m
 high : c.m ≤ U
theorem ent_addc {n : Nat} {W : Mat} (h : Sq n W) {c : Bd} (ha : c.a < n) (hb : c.b < n) (i j : Nat) : ent (addc W c) i j = if i = c.a ∧ j = c.b then min (ent W c.a c.b) c.m else ent W i j :=
 ent_put h ha hb _ i j
theorem Good.addc {far U B : Int} {n : Nat} {W : Mat} (h : Good far U B n W) {c : Bd} (hc : c.Ok U B n) : Good far U B n (addc W c) := by
 have e := ent_addc h.sq hc.a hc.b
 refine ⟨h.sq.put _ _ _, fun i hi => ?_, fun i j hi hj => ?_, fun i j hi hj hlt => ?_, fun i j hi hj => ?_⟩
 ·rw [e, if_neg (by have := hc.ne; omega)]; exact h.diag i hi
 ·rw [e]; split
  ·rename_i g; have := h.high i j hi hj; rw [g.1, g.2] at this; omega
  ·exact h.high i j hi hj
 ·rw [e] at hlt ⊢; split
  ·have := hc.high; omega
  ·rename_i g; rw [if_neg g] at hlt; exact h.small i j hi hj hlt
 ·rw [e]; split
  ·rename_i g; have := h.low i j hi hj; rw [g.1, g.2] at this; have := hc.low; omega
  ·exact h.low i j hi hj
theorem Good.fold {far U B : Int} {n : Nat} : ∀ {cs : List Bd} {W : Mat}, Good far U B n W → (∀ c ∈ cs, c.Ok U B n) → Good far U B n (cs.foldl Fw.addc W)
 | [], _, h, _ => h
 | c :: cs, _, h, hc => (h.addc (hc c List.mem_cons_self)).fold fun d hd => hc d (List.mem_cons_of_mem _ hd)
theorem obeys_addc {far U B : Int} {n : Nat} {W : Mat} (h : Good far U B n W) {c : Bd} (hc : c.Ok U B n) (hU : U < far) (x : Nat → Int) :
  Obeys far n (addc W c) x ↔ Obeys far n W x ∧ c.holds x := by
 have e := ent_addc h.sq hc.a hc.b
 constructor
 ·intro ho
  refine ⟨fun i j hi hj hlt => ?_, ?_⟩
  ·have := ho i j hi hj
   rw [e] at this
   by_cases g : i = c.a ∧ j = c.b
   ·rw [if_pos g] at this
    rw [g.1, g.2] at hlt this ⊢
    have := this (by omega)
    omega
   ·rw [if_neg g] at this; exact this hlt
  ·have := ho c.a c.b hc.a hc.b
   rw [e, if_pos ⟨rfl, rfl⟩] at this
   have hh := hc.high
   have := this (by omega)
   unfold Bd.holds; omega
 ·rintro ⟨ho, hh⟩ i j hi hj hlt
  rw [e] at hlt ⊢
  by_cases g : i = c.a ∧ j = c.b
  ·rw [if_pos g] at hlt ⊢
   rw [g.1, g.2]
   unfold Bd.holds at hh
   rcases Int.le_total (ent W c.a c.b) c.m with q | q
   ·rw [Int.min_eq_left q] at hlt ⊢; exact ho _ _ hc.a hc.b hlt
   ·rw [Int.min_eq_right q]; exact hh
  ·rw [if_neg g] at hlt ⊢; exact ho i j hi hj hlt
theorem obeys_fold {far U B : Int} {n : Nat} (hU : U < far) (x : Nat → Int) : ∀ {cs : List Bd} {W : Mat}, Good far U B n W → (∀ c ∈ cs, c.Ok U B n) →
  (Obeys far n (cs.foldl addc W) x ↔ Obeys far n W x ∧ ∀ c ∈ cs, c.holds x)
 | [], W, h, _ => by simp
 | c :: cs, W, h, hc => by
  have h1 := hc c List.mem_cons_self
  rw [List.foldl_cons, obeys_fold hU x (h.addc h1) fun d hd => hc d (List.mem_cons_of_mem _ hd), obeys_addc h h1 hU]
  simp only [List.forall_mem_cons]
  exact and_assoc
def base (far : Int) (n : Nat) : Mat := (List.range n).map fun a => (List.replicate n far).set a 0
theorem ent_base {far : Int} {n i j : Nat} (hi : i < n) (hj : j < n) : ent (base far n) i j = if i = j then 0 else far := by
 unfold ent base
 have e : (List.map (fun a => (List.replicate n far).set a 0) (List.range n)).getD i [] = (List.replicate n far).set i 0 := by
  rw [List.getD_eq_getElem?_getD, List.getElem?_map, List.getElem?_range hi]; rfl
 rw [e, List.getD_eq_getElem?_getD, List.getElem?_set]
 by_cases h : i = j
 ·subst h; simp [hi]
 ·rw [if_neg h, if_neg h, List.getElem?_replicate, if_pos hj]; rfl
theorem Good.base {far U B : Int} {n : Nat} (hf : 0 < far) (hU : 0 ≤ U) (hB : 0 ≤ B) : Good far U B n (base far n) := by
 refine ⟨⟨by simp [Fw.base], fun i r h => ?_⟩, fun i hi => by rw [ent_base hi hi, if_pos rfl], fun i j hi hj => ?_, fun i j hi hj => ?_, fun i j hi hj => ?_⟩
 ·have := List.mem_of_getElem? h
  simp only [Fw.base, List.mem_map] at this
  obtain ⟨a, _, rfl⟩ := this
  simp
 ·rw [ent_base hi hj]; split <;> omega
 ·rw [ent_base hi hj]; split <;> omega
 ·rw [ent_base hi hj]; split <;> omega
theorem obeys_base (far : Int) (n : Nat) (x : Nat → Int) : Obeys far n (base far n) x := by
 intro i j hi hj hlt
 rw [ent_base hi hj] at hlt ⊢
 split
 ·rename_i e; subst e; omega
 ·rename_i e; rw [if_neg e] at hlt; omega
structure Tells (n : Nat) (P : (Nat → Int) → Prop) (V : Mat) : Prop where
 most : ∀ x, P x → ∀ a b, a < n → b < n → x b - x a ≤ ent V a b
 met : ∀ a, a < n → P fun b => ent V a b
 diag : ∀ a, a < n → ent V a a = 0
theorem closed_tells {far U B : Int} {n : Nat} {W V : Mat} (h : Good far U B n W) (hU : 0 ≤ U) (hf : 2 ^ (n + 1) * U < far) (hc : closed far n W = some V)
  (hfin : ∀ i j, i < n → j < n → ent V i j < far) : Tells n (Obeys far n W) V := by
 have hq := closed_some h.sq h.diag hU hf h.small hc
 refine ⟨fun x hx a b ha hb => hq.obeys x hx a b ha hb (hfin a b ha hb), fun a ha i j hi hj hlt => ?_, hq.diag⟩
 have t := (hq.tri a i j ha hi hj (hfin a i ha hi) (hfin i j hi hj)).1
 have := hq.le i j
 show ent V a j - ent V a i ≤ ent W i j
 omega
theorem fin_trans {far U B : Int} {n : Nat} {W V : Mat} (h : Good far U B n W) (hU : 0 ≤ U) (hf : 2 ^ (n + 1) * U < far) (hc : closed far n W = some V) {i k j : Nat} (hi : i < n) (hk : k < n) (hj : j < n)
  (h1 : ent V i k < far) (h2 : ent V k j < far) : ent V i j < far :=
 ((closed_some h.sq h.diag hU hf h.small hc).tri i k j hi hk hj h1 h2).2
theorem addc_le {n : Nat} {W : Mat} (h : Sq n W) {c : Bd} (ha : c.a < n) (hb : c.b < n) (i j : Nat) : ent (addc W c) i j ≤ ent W i j := by
 rw [ent_addc h ha hb]; split
 ·rename_i g; rw [g.1, g.2]; omega
 ·omega
theorem fold_le {n : Nat} : ∀ {cs : List Bd} {W : Mat}, Sq n W → (∀ c ∈ cs, c.a < n ∧ c.b < n) → ∀ i j, ent (cs.foldl addc W) i j ≤ ent W i j
 | [], _, _, _, _, _ => Int.le_refl _
 | c :: cs, W, h, hc, i, j => by
  have h1 := hc c List.mem_cons_self
  exact Int.le_trans (fold_le (h.put _ _ _) (fun d hd => hc d (List.mem_cons_of_mem _ hd)) i j) (addc_le h h1.1 h1.2 i j)
theorem fold_mem {n : Nat} : ∀ {cs : List Bd} {W : Mat}, Sq n W → (∀ c ∈ cs, c.a < n ∧ c.b < n) → ∀ c ∈ cs, ent (cs.foldl addc W) c.a c.b ≤ c.m
 | d :: cs, W, h, hc, c, hm => by
  have h1 := hc d List.mem_cons_self
  rcases List.mem_cons.1 hm with rfl | hm
  ·refine Int.le_trans (fold_le (h.put _ _ _) (fun d hd => hc d (List.mem_cons_of_mem _ hd)) _ _) ?_
   show ent (addc W c) c.a c.b ≤ _
   rw [ent_addc h h1.1 h1.2, if_pos ⟨rfl, rfl⟩]; omega
  ·exact fold_mem (h.put _ _ _) (fun d hd => hc d (List.mem_cons_of_mem _ hd)) c hm
theorem fin_mem {far U B : Int} {n : Nat} {W V : Mat} {cs : List Bd} (h : Good far U B n W) (hU : 0 ≤ U) (hf : 2 ^ (n + 1) * U < far) (hcs : ∀ c ∈ cs, c.Ok U B n) (hlt : U < far) (hc : closed far n (cs.foldl addc W) = some V)
  {c : Bd} (hm : c ∈ cs) : ent V c.a c.b < far := by
 have hg := h.fold hcs
 have hq := closed_some hg.sq hg.diag hU hf hg.small hc
 have h1 := hq.le c.a c.b
 have h2 := fold_mem h.sq (fun c hc => ⟨(hcs c hc).a, (hcs c hc).b⟩) c hm
 have := (hcs c hm).high
 omega
end Go.Fw
end
