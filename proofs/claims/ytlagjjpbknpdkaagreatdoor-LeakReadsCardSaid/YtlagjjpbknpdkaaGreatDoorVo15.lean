/- Part 15 of the proof. -/
import Derived.Test.YtlagjjpbknpdkaaGreatDoorVo14
set_option linter.all false
set_option linter.unusedVariables false
set_option linter.unusedSimpArgs false
set_option linter.unusedSectionVars false
open Nat (reduceEqDiff reduceAdd reduceLeDiff)
section
namespace Go.Av.Fx
open Go Go.Av Go.Av.Tb Go.Proofs
def rowsA (m n : Nat) : List AV := (List.range m).map fun i => .sref i 0 n n
def heapR (R : List (List Int)) : List (Option Blk) := R.map fun r => some (.cells (ints r))
@[simp] theorem heapR_len (R : List (List Int)) : (heapR R).length = R.length := by simp [heapR]
@[simp] theorem rowsA_len (m n : Nat) : (rowsA m n).length = m := by simp [rowsA]
theorem rowsA_get {m n i : Nat} (h : i < m) : (rowsA m n)[i]? = some (.sref i 0 n n) := by
 simp [rowsA, List.getElem?_range h]
theorem heapR_get {R : List (List Int)} {g : List (Option Blk)} {i : Nat} (h : i < R.length) : (heapR R ++ g)[i]? = some (some (.cells (ints R[i]))) := by
 rw [List.getElem?_append_left (by simpa using h)]
 simp [heapR, h]
theorem cellsAt_R {R : List (List Int)} {g : List (Option Blk)} {i : Nat} (h : i < R.length) : cellsAt (heapR R ++ g) i = some (ints R[i]) := by
 unfold cellsAt; rw [heapR_get h]
theorem setH_R {g : List (Option Blk)} {r : List Int} : ∀ {R : List (List Int)} {i : Nat}, i < R.length → setH (heapR R ++ g) i (.cells (ints r)) = heapR (R.set i r) ++ g
 | [], i, h => by simp at h
 | x :: R, 0, h => rfl
 | x :: R, i + 1, h => by
  have := setH_R (g := g) (r := r) (R := R) (i := i) (by simpa using h)
  show _ :: setH (heapR R ++ g) i _ = _
  rw [this]; rfl
theorem ints_set (l : List Int) (j : Nat) (v : Int) : (ints l).set j (.int .i64 v) = ints (l.set j v) := by simp [ints, List.map_set]
theorem heapR_snoc (R : List (List Int)) (r : List Int) : heapR R ++ [some (.cells (ints r))] = heapR (R ++ [r]) := by simp [heapR]
theorem rowsA_snoc (m n : Nat) : rowsA m n ++ [.sref m 0 n n] = rowsA (m + 1) n := by simp [rowsA, List.range_succ]
theorem cellsAt_last {R : List (List Int)} {l : List AV} {n : Nat} (h : R.length = n) : cellsAt (heapR R ++ [some (.cells l)]) n = some l := by
 unfold cellsAt
 rw [List.getElem?_append_right (by simp [h]), heapR_len, h, Nat.sub_self]; rfl
theorem setH_last {B : Blk} {x : Option Blk} : ∀ {R : List (List Int)} {n : Nat}, R.length = n → setH (heapR R ++ [x]) n B = heapR R ++ [some B]
 | [], n, h => by subst h; rfl
 | r :: R, n, h => by
  subst h
  have := setH_last (B := B) (x := x) (R := R) rfl
  show _ :: setH (heapR R ++ [x]) R.length B = _
  rw [this]; rfl
theorem rowsA_bnd {N K n : Nat} : ∀ {m : Nat}, m ≤ N → bndL N K (rowsA m n) = true
 | 0, _ => rfl
 | m + 1, h => by
  rw [← rowsA_snoc, bndL_append, rowsA_bnd (by omega)]
  simp [bndL, AV.bnd]; omega
theorem heapR_bnd {R : List (List Int)} {N K : Nat} {i : Nat} {B : Blk} (h : (heapR R)[i]? = some (some B)) : B.bnd N K = true := by
 simp only [heapR, List.getElem?_map, Option.map_eq_some_iff] at h
 obtain ⟨r, _, h2⟩ := h
 cases h2
 simp [Blk.bnd]
section
variable {E : Env} {K : TS → St → Prop} {n : Nat} {rest : List MO} {hs : List Bool} {b : St} {ts : TS} {S : St} (d : Option Nat) (args : Array Operand) (tys : Array TypeId)
@[go_sem] theorem y_min : preM E K (n + 1) (⟨none, d, .call { callee := .builtin .min, args := args, argTypes := tys }⟩ :: rest) [] b ts S = sq (fun v S' => preM E K n rest [] b (setT ts d v) S') ⟨⟩ (astepO E.T b ts (.call { callee := .builtin .min, args := args, argTypes := tys })) S := y_builtin d .min args tys rfl
@[go_sem] theorem y_max : preM E K (n + 1) (⟨none, d, .call { callee := .builtin .max, args := args, argTypes := tys }⟩ :: rest) [] b ts S = sq (fun v S' => preM E K n rest [] b (setT ts d v) S') ⟨⟩ (astepO E.T b ts (.call { callee := .builtin .max, args := args, argTypes := tys })) S := y_builtin d .max args tys rfl
@[go_sem] theorem y_len : preM E K (n + 1) (⟨none, d, .call { callee := .builtin .len, args := args, argTypes := tys }⟩ :: rest) [] b ts S = sq (fun v S' => preM E K n rest [] b (setT ts d v) S') ⟨⟩ (astepO E.T b ts (.call { callee := .builtin .len, args := args, argTypes := tys })) S := y_builtin d .len args tys rfl
@[go_sem] theorem y_app : preM E K (n + 1) (⟨none, d, .call { callee := .builtin .append, args := args, argTypes := tys }⟩ :: rest) [] b ts S = sq (fun v S' => preM E K n rest [] b (setT ts d v) S') ⟨⟩ (astepO E.T b ts (.call { callee := .builtin .append, args := args, argTypes := tys })) S := y_builtin d .append args tys rfl
end
end Go.Av.Fx
end
section
namespace Go.Fw
abbrev Mat := List (List Int)
theorem pow_le {b : Int} (hb : 1 ≤ b) (m : Nat) : ∀ {n : Nat}, m ≤ n → b ^ m ≤ b ^ n
 | n, h => by
  induction n with
  | zero => rw [Nat.le_zero.1 h]; exact Int.le_refl _
  | succ n ih =>
   by_cases e : m = n + 1
   ·rw [e]; exact Int.le_refl _
   ·have h1 := ih (by omega)
    rw [Int.pow_succ]
    have h2 : b ^ n * 1 ≤ b ^ n * b := Int.mul_le_mul_of_nonneg_left hb (Int.le_of_lt (Int.pow_pos (by omega)))
    rw [Int.mul_one] at h2
    exact Int.le_trans h1 h2
def ent (W : Mat) (a b : Nat) : Int := (W.getD a []).getD b 0
def put (W : Mat) (a b : Nat) (v : Int) : Mat := W.set a ((W.getD a []).set b v)
def Sq (n : Nat) (W : Mat) : Prop := W.length = n ∧ ∀ (i : Nat) (r : List Int), W[i]? = some r → r.length = n
theorem Sq.set {n : Nat} {R : Mat} (h : Sq n R) (i : Nat) {r : List Int} (hr : i < n → r.length = n) : Sq n (R.set i r) := by
 refine ⟨by simp [h.1], fun j x hx => ?_⟩
 rw [List.getElem?_set] at hx
 split at hx
 ·split at hx
  ·cases hx; exact hr (by rw [← h.1]; assumption)
  ·cases hx
 ·exact h.2 j x hx
theorem Sq.getD {n : Nat} {R : Mat} (h : Sq n R) {i : Nat} (hi : i < n) : (R.getD i []).length = n := by
 have hl : i < R.length := by rw [h.1]; exact hi
 rw [List.getD_eq_getElem?_getD, List.getElem?_eq_getElem hl]
 exact h.2 i _ (List.getElem?_eq_getElem hl)
theorem Sq.put {n : Nat} {W : Mat} (h : Sq n W) (a b : Nat) (v : Int) : Sq n (put W a b v) :=
 h.set a fun ha => by rw [List.length_set]; exact h.getD ha
theorem ent_put {n : Nat} {W : Mat} (h : Sq n W) {a b : Nat} (ha : a < n) (hb : b < n) (v : Int) (i j : Nat) :
  ent (Fw.put W a b v) i j = if i = a ∧ j = b then v else ent W i j := by
 unfold ent Fw.put
 have hl : a < W.length := by rw [h.1]; exact ha
 by_cases hi : i = a
 ·subst hi
  have e : (W.set i ((W.getD i []).set b v)).getD i [] = (W.getD i []).set b v := by
   rw [List.getD_eq_getElem?_getD, List.getElem?_set_self hl]; rfl
  rw [e]
  have hlen := h.getD ha
  by_cases hj : j = b
  ·subst hj
   rw [if_pos ⟨rfl, rfl⟩, List.getD_eq_getElem?_getD, List.getElem?_set_self (by rw [hlen]; exact hb)]; rfl
  ·rw [if_neg (fun x => hj x.2), List.getD_eq_getElem?_getD, List.getElem?_set_ne (fun x => hj x.symm), ← List.getD_eq_getElem?_getD]
 ·rw [if_neg (fun x => hi x.1)]
  have e : (W.set a ((W.getD a []).set b v)).getD i [] = W.getD i [] := by
   rw [List.getD_eq_getElem?_getD, List.getElem?_set_ne (fun x => hi x.symm), ← List.getD_eq_getElem?_getD]
  rw [e]
def upd (far : Int) (c a : Nat) (W : Mat) (b : Nat) : Mat :=
 if ent W a c < far ∧ ent W c b < far then put W a b (min (ent W a b) (ent W a c + ent W c b)) else W
def row (far : Int) (n c : Nat) (W : Mat) (a : Nat) : Mat := (List.range n).foldl (upd far c a) W
def stage (far : Int) (n : Nat) (W : Mat) (c : Nat) : Mat := (List.range n).foldl (row far n c) W
def upto (far : Int) (n k : Nat) (W : Mat) : Mat := (List.range k).foldl (stage far n) W
theorem fold_ind {α : Type} (P : Nat → α → Prop) (f : α → Nat → α) (z : α) : ∀ (n : Nat), P 0 z → (∀ k, k < n → ∀ w, P k w → P (k + 1) (f w k)) → P n ((List.range n).foldl f z)
 | 0, h0, _ => h0
 | n + 1, h0, hs => by
  rw [List.range_succ, List.foldl_append]
  exact hs n (Nat.lt_succ_self n) _ (fold_ind P f z n h0 fun k hk => hs k (Nat.lt_succ_of_lt hk))
theorem fold_succ {α : Type} (f : α → Nat → α) (z : α) (n : Nat) : (List.range (n + 1)).foldl f z = f ((List.range n).foldl f z) n := by
 rw [List.range_succ, List.foldl_append]; rfl
theorem Sq.upd {n : Nat} {W : Mat} (h : Sq n W) (far : Int) (c a b : Nat) : Sq n (upd far c a W b) := by
 unfold Fw.upd; split
 ·exact h.put _ _ _
 ·exact h
theorem Sq.row {n : Nat} {W : Mat} (h : Sq n W) (far : Int) (m c a : Nat) : Sq n (row far m c W a) :=
 fold_ind (fun _ w => Sq n w) _ _ _ h fun _ _ _ hw => hw.upd _ _ _ _
theorem Sq.stage {n : Nat} {W : Mat} (h : Sq n W) (far : Int) (m c : Nat) : Sq n (stage far m W c) :=
 fold_ind (fun _ w => Sq n w) _ _ _ h fun _ _ _ hw => hw.row _ _ _ _
theorem Sq.upto {n : Nat} {W : Mat} (h : Sq n W) (far : Int) (m k : Nat) : Sq n (upto far m k W) :=
 fold_ind (fun _ w => Sq n w) _ _ _ h fun _ _ _ hw => hw.stage _ _ _
theorem ent_upd {n : Nat} {W : Mat} (h : Sq n W) {a b : Nat} (ha : a < n) (hb : b < n) (far : Int) (c i j : Nat) :
  ent (upd far c a W b) i j = if (i = a ∧ j = b) ∧ ent W a c < far ∧ ent W c b < far then min (ent W a b) (ent W a c + ent W c b) else ent W i j := by
 unfold upd
 by_cases hg : ent W a c < far ∧ ent W c b < far
 ·rw [if_pos hg, ent_put h ha hb]
  by_cases hij : i = a ∧ j = b
  ·rw [if_pos hij, if_pos ⟨hij, hg⟩]
  ·rw [if_neg hij, if_neg (fun x => hij x.1)]
 ·rw [if_neg hg, if_neg (fun x => hg x.2)]
theorem upd_le {n : Nat} {W : Mat} (h : Sq n W) {a b : Nat} (ha : a < n) (hb : b < n) (far : Int) (c i j : Nat) : ent (upd far c a W b) i j ≤ ent W i j := by
 rw [ent_upd h ha hb]
 split
 ·rename_i hh
  obtain ⟨⟨rfl, rfl⟩, _⟩ := hh
  exact Int.min_le_left _ _
 ·exact Int.le_refl _
theorem row_le {n : Nat} {W : Mat} (h : Sq n W) {a : Nat} (ha : a < n) (far : Int) (c i j : Nat) : ent (row far n c W a) i j ≤ ent W i j :=
 (fold_ind (fun _ w => Sq n w ∧ ent w i j ≤ ent W i j) _ _ n ⟨h, Int.le_refl _⟩ fun k hk w hw => ⟨hw.1.upd _ _ _ _, Int.le_trans (upd_le hw.1 ha hk far c i j) hw.2⟩).2
theorem stage_le {n : Nat} {W : Mat} (h : Sq n W) (far : Int) (c i j : Nat) : ent (stage far n W c) i j ≤ ent W i j :=
 (fold_ind (fun _ w => Sq n w ∧ ent w i j ≤ ent W i j) _ _ n ⟨h, Int.le_refl _⟩ fun k hk w hw => ⟨hw.1.row _ _ _ _, Int.le_trans (row_le hw.1 hk far c i j) hw.2⟩).2
theorem upto_le {n : Nat} {W : Mat} (h : Sq n W) (far : Int) (k i j : Nat) : ent (upto far n k W) i j ≤ ent W i j :=
 (fold_ind (fun _ w => Sq n w ∧ ent w i j ≤ ent W i j) _ _ k ⟨h, Int.le_refl _⟩ fun k hk w hw => ⟨hw.1.stage _ _ _, Int.le_trans (stage_le hw.1 far k i j) hw.2⟩).2
def step (far : Int) (c : Nat) (W : Mat) (i j : Nat) : Int :=
 if ent W i c < far ∧ ent W c j < far then min (ent W i j) (ent W i c + ent W c j) else ent W i j
theorem step_col {far : Int} {c : Nat} {W : Mat} (h0 : ent W c c = 0) (i : Nat) : step far c W i c = ent W i c := by
 unfold step; rw [h0, Int.add_zero, Int.min_self]; split <;> rfl
theorem step_row {far : Int} {c : Nat} {W : Mat} (h0 : ent W c c = 0) (j : Nat) : step far c W c j = ent W c j := by
 unfold step; rw [h0, Int.zero_add, Int.min_self]; split <;> rfl
theorem row_ent {n : Nat} {W w : Mat} {far : Int} {c a : Nat} (hc : c < n) (ha : a < n) (h0 : ent W c c = 0) (hs : Sq n w)
  (hw : ∀ i j, i < n → j < n → ent w i j = if i < a then step far c W i j else ent W i j) :
  ∀ i j, i < n → j < n → ent (row far n c w a) i j = if i < a + 1 then step far c W i j else ent W i j := by
 have key := (fold_ind (fun b v => Sq n v ∧ ∀ i j, i < n → j < n → ent v i j = if i < a ∨ (i = a ∧ j < b) then step far c W i j else ent W i j) (upd far c a) w n
  ⟨hs, fun i j hi hj => by rw [hw i j hi hj]; simp⟩ ?_).2
 ·intro i j hi hj
  have := key i j hi hj
  unfold row
  rw [this]
  by_cases h : i < a + 1
  ·rw [if_pos h, if_pos (by omega)]
  ·rw [if_neg h, if_neg (by omega)]
 ·rintro b hb v ⟨hv, he⟩
  refine ⟨hv.upd _ _ _ _, fun i j hi hj => ?_⟩
  have e1 : ent v a c = ent W a c := by
   rw [he a c ha hc, step_col h0]; split <;> rfl
  have e2 : ent v c b = ent W c b := by
   rw [he c b hc hb, step_row h0]; split <;> rfl
  have e3 : ent v a b = ent W a b := by
   rw [he a b ha hb, if_neg (by omega)]
  rw [ent_upd hv ha hb, e1, e2, e3]
  by_cases hij : i = a ∧ j = b
  ·obtain ⟨rfl, rfl⟩ := hij
   rw [if_pos (show i < i ∨ i = i ∧ j < j + 1 by omega)]
   unfold step
   by_cases hg : ent W i c < far ∧ ent W c j < far
   ·rw [if_pos ⟨⟨rfl, rfl⟩, hg⟩, if_pos hg]
   ·rw [if_neg (fun x => hg x.2), if_neg hg, e3]
  ·rw [if_neg (fun x => hij x.1), he i j hi hj]
   by_cases h : i < a ∨ i = a ∧ j < b
   ·rw [if_pos h, if_pos (by omega)]
   ·rw [if_neg h, if_neg (by omega)]
theorem stage_ent {n : Nat} {W : Mat} {far : Int} {c : Nat} (hc : c < n) (h0 : ent W c c = 0) (hs : Sq n W) :
  ∀ i j, i < n → j < n → ent (stage far n W c) i j = step far c W i j := by
 have key := (fold_ind (fun a v => Sq n v ∧ ∀ i j, i < n → j < n → ent v i j = if i < a then step far c W i j else ent W i j) (row far n c) W n
  ⟨hs, fun i j hi hj => by simp⟩ ?_).2
 ·intro i j hi hj
  have := key i j hi hj
  rw [if_pos hi] at this
  exact this
 ·rintro a ha v ⟨hv, he⟩
  exact ⟨hv.row _ _ _ _, row_ent hc ha h0 hv he⟩
structure Tri (far : Int) (n k : Nat) (U : Int) (W : Mat) : Prop where
 small : ∀ i j, i < n → j < n → ent W i j < far → ent W i j ≤ U
 tri : ∀ c, c < k → ∀ i j, i < n → j < n → ent W i c < far → ent W c j < far → ent W i j ≤ ent W i c + ent W c j
theorem Tri.stage {far : Int} {n k : Nat} {U : Int} {W : Mat} (h : Tri far n k U W) (hs : Sq n W) (hk : k < n) (h0 : ∀ i, i < n → ent W i i = 0)
  (hU : 0 ≤ U) (hf : 2 * U < far) : Tri far n (k + 1) (2 * U) (stage far n W k) := by
 have he := stage_ent (far := far) hk (h0 k hk) hs
 refine ⟨fun i j hi hj hlt => ?_, fun c hc i j hi hj h1 h2 => ?_⟩
 ·rw [he i j hi hj] at hlt ⊢
  unfold step at hlt ⊢
  split
  ·rename_i hg
   have a1 := h.small i k hi hk hg.1
   have a2 := h.small k j hk hj hg.2
   have := Int.min_le_right (ent W i j) (ent W i k + ent W k j)
   omega
  ·rename_i hg
   rw [if_neg hg] at hlt
   have := h.small i j hi hj hlt
   omega
 ·have hcn : c < n := by omega
  rw [he i c hi hcn] at h1 ⊢
  rw [he c j hcn hj] at h2 ⊢
  rw [he i j hi hj]
  by_cases hck : c = k
  ·subst hck
   rw [step_col (h0 c hcn)] at h1 ⊢
   rw [step_row (h0 c hcn)] at h2 ⊢
   unfold step
   rw [if_pos ⟨h1, h2⟩]
   exact Int.min_le_right _ _
  ·have hc' : c < k := by omega
   have t1 : ∀ i j, i < n → j < n → ent W i c < far → ent W c j < far → ent W i j ≤ ent W i c + ent W c j := h.tri c hc'
   have hb : ∀ i j, i < n → j < n → ent W i c < far → ent W c j < far → ent W i j < far := fun i j hi hj x y => by
    have := t1 i j hi hj x y
    have := h.small i c hi hcn x
    have := h.small c j hcn hj y
    omega
   have sle : ∀ i j, step far k W i j ≤ ent W i j := fun i j => by
    unfold step; split
    ·exact Int.min_le_left _ _
    ·exact Int.le_refl _
   have sle2 : ∀ i j, ent W i k < far → ent W k j < far → step far k W i j ≤ ent W i k + ent W k j := fun i j x y => by
    unfold step; rw [if_pos ⟨x, y⟩]; exact Int.min_le_right _ _
   have cs : ∀ i j, step far k W i j = ent W i j ∨ (ent W i k < far ∧ ent W k j < far ∧ step far k W i j = ent W i k + ent W k j) := fun i j => by
    unfold step; split
    ·rename_i hg
     rcases Int.le_total (ent W i j) (ent W i k + ent W k j) with q | q
     ·left; exact Int.min_eq_left q
     ·right; exact ⟨hg.1, hg.2, Int.min_eq_right q⟩
    ·left; rfl
   rcases cs i c with e1 | ⟨f1, f2, e1⟩ <;> rcases cs c j with e2 | ⟨g1, g2, e2⟩
   ·rw [e1] at h1 ⊢; rw [e2] at h2 ⊢
    exact Int.le_trans (sle i j) (t1 i j hi hj h1 h2)
   ·rw [e1] at h1 ⊢; rw [e2]
    have := t1 i k hi hk h1 g1
    have := sle2 i j (hb i k hi hk h1 g1) g2
    omega
   ·rw [e2] at h2 ⊢; rw [e1]
    have := t1 k j hk hj f2 h2
    have := sle2 i j f1 (hb k j hk hj f2 h2)
    omega
   ·rw [e1, e2]
    have := t1 k k hk hk f2 g1
    rw [h0 k hk] at this
    have := sle2 i j f1 g2
    omega
def Obeys (far : Int) (n : Nat) (W : Mat) (x : Nat → Int) : Prop := ∀ i j, i < n → j < n → ent W i j < far → x j - x i ≤ ent W i j
theorem Obeys.upd {far : Int} {n : Nat} {W : Mat} {x : Nat → Int} (h : Obeys far n W x) (hs : Sq n W) {a b c : Nat} (ha : a < n) (hb : b < n) (hc : c < n) : Obeys far n (upd far c a W b) x := by
 intro i j hi hj hlt
 rw [ent_upd hs ha hb] at hlt ⊢
 split
 ·rename_i hg
  rw [if_pos hg] at hlt
  obtain ⟨⟨rfl, rfl⟩, g1, g2⟩ := hg
  have a1 := h i c hi hc g1
  have a2 := h c j hc hj g2
  rcases Int.le_total (ent W i j) (ent W i c + ent W c j) with q | q
  ·rw [Int.min_eq_left q] at hlt ⊢; exact h i j hi hj hlt
  ·rw [Int.min_eq_right q]; omega
 ·rename_i hg
  rw [if_neg hg] at hlt
  exact h i j hi hj hlt
theorem Obeys.upto {far : Int} {n : Nat} {W : Mat} {x : Nat → Int} (h : Obeys far n W x) (hs : Sq n W) {k : Nat} (hk : k ≤ n) : Obeys far n (upto far n k W) x :=
 (fold_ind (fun _ w => Sq n w ∧ Obeys far n w x) _ _ k ⟨hs, h⟩ fun c hc w hw => fold_ind (fun _ w => Sq n w ∧ Obeys far n w x) _ _ n hw fun a ha w hw =>
  fold_ind (fun _ w => Sq n w ∧ Obeys far n w x) _ _ n hw fun b hb w hw => ⟨hw.1.upd _ _ _ _, hw.2.upd hw.1 ha hb (by omega)⟩).2
structure Low (n c a : Nat) (X : Int) (W : Mat) : Prop where
 all : ∀ i j, i < n → j < n → -(7 * X) ≤ ent W i j
 new : ∀ i j, a ≤ i → i < n → j < n → -X ≤ ent W i j
 own : ∀ j, j < n → -(3 * X) ≤ ent W c j
structure LowIn (n c a b : Nat) (X : Int) (W : Mat) : Prop where
 all : ∀ i j, i < n → j < n → -(7 * X) ≤ ent W i j
 new : ∀ i j, a + 1 ≤ i → i < n → j < n → -X ≤ ent W i j
 own : ∀ j, j < n → -(3 * X) ≤ ent W c j
 here : ∀ j, b ≤ j → j < n → -X ≤ ent W a j
 col : -(4 * X) ≤ ent W a c
 diag : a = c → -(2 * X) ≤ ent W a c
theorem Low.to {n c a : Nat} {X : Int} {W : Mat} (h : Low n c a X W) (hX : 0 ≤ X) (ha : a < n) (hc : c < n) : LowIn n c a 0 X W :=
 ⟨h.all, fun i j h1 => h.new i j (by omega), h.own, fun j _ hj => h.new a j (Nat.le_refl _) ha hj, by have := h.new a c (Nat.le_refl _) ha hc; omega, fun _ => by have := h.new a c (Nat.le_refl _) ha hc; omega⟩
theorem LowIn.upd {n c a b : Nat} {X : Int} {W : Mat} (h : LowIn n c a b X W) (hX : 0 ≤ X) (hs : Sq n W) (ha : a < n) (hb : b < n) (hc : c < n) (far : Int) : LowIn n c a (b + 1) X (upd far c a W b) := by
 have e := ent_upd hs ha hb far c
 have hv : -(7 * X) ≤ ent W a c + ent W c b := by
  have := h.col; have := h.own b hb; omega
 have hv3 : a = c → -(3 * X) ≤ ent W a c + ent W c b := fun q => by
  subst q
  have := h.diag rfl; have := h.here b (Nat.le_refl _) hb; omega
 have hvc : b = c → -(4 * X) ≤ ent W a c + ent W c b := fun q => by
  subst q
  have := h.here b (Nat.le_refl _) hb; have := h.own b hb; omega
 have hvd : a = c → b = c → -(2 * X) ≤ ent W a c + ent W c b := fun q r => by
  subst q; subst r
  have := h.here b (Nat.le_refl _) hb; omega
 refine ⟨fun i j hi hj => ?_, fun i j h1 hi hj => ?_, fun j hj => ?_, fun j h1 hj => ?_, ?_, fun q => ?_⟩
 ·rw [e]; split
  ·rename_i g; obtain ⟨⟨rfl, rfl⟩, _⟩ := g
   have := h.all i j hi hj; omega
  ·exact h.all i j hi hj
 ·rw [e, if_neg (by omega)]; exact h.new i j h1 hi hj
 ·rw [e]; split
  ·rename_i g; obtain ⟨⟨q, rfl⟩, _⟩ := g
   have := hv3 q.symm; have := h.own j hj; subst q; omega
  ·exact h.own j hj
 ·rw [e, if_neg (by omega)]; exact h.here j (by omega) hj
 ·rw [e]; split
  ·rename_i g; obtain ⟨⟨_, q⟩, _⟩ := g
   have := hvc q.symm; have := h.col; subst q; omega
  ·exact h.col
 ·rw [e]; split
  ·rename_i g; obtain ⟨⟨_, r⟩, _⟩ := g
   have := hvd q r.symm; have := h.diag q; subst r; omega
  ·exact h.diag q
theorem LowIn.back {n c a : Nat} {X : Int} {W : Mat} (h : LowIn n c a n X W) : Low n c (a + 1) X W := ⟨h.all, fun i j h1 => h.new i j h1, h.own⟩
theorem Low.start {n : Nat} {X : Int} {W : Mat} (hX : 0 ≤ X) (h : ∀ i j, i < n → j < n → -X ≤ ent W i j) {c : Nat} (hc : c < n) : Low n c 0 X W :=
 ⟨fun i j hi hj => by have := h i j hi hj; omega, fun i j _ hi hj => h i j hi hj, fun j hj => by have := h c j hc hj; omega⟩
theorem lowIn_at {n c a : Nat} {X : Int} {W : Mat} (hX : 0 ≤ X) (hs : Sq n W) (ha : a < n) (hc : c < n) (far : Int) (h : LowIn n c a 0 X W) : ∀ b, b ≤ n → LowIn n c a b X ((List.range b).foldl (upd far c a) W)
 | 0, _ => h
 | b + 1, hb => by
  rw [fold_succ]
  exact (lowIn_at hX hs ha hc far h b (by omega)).upd hX (fold_ind (fun _ w => Sq n w) _ _ _ hs fun _ _ _ hw => hw.upd _ _ _ _) ha (by omega) hc far
theorem low_at {n c : Nat} {X : Int} {W : Mat} (hX : 0 ≤ X) (hs : Sq n W) (hc : c < n) (far : Int) (h : ∀ i j, i < n → j < n → -X ≤ ent W i j) : ∀ a, a ≤ n → Low n c a X ((List.range a).foldl (row far n c) W)
 | 0, _ => Low.start hX h hc
 | a + 1, ha => by
  rw [fold_succ]
  exact (lowIn_at hX (fold_ind (fun _ w => Sq n w) _ _ _ hs fun _ _ _ hw => hw.row _ _ _ _) (by omega) hc far ((low_at hX hs hc far h a (by omega)).to hX (by omega) hc) n (Nat.le_refl _)).back
theorem low_upto {n : Nat} {X : Int} {W : Mat} (hX : 0 ≤ X) (hs : Sq n W) (far : Int) (h : ∀ i j, i < n → j < n → -X ≤ ent W i j) : ∀ k, k ≤ n → ∀ i j, i < n → j < n → -(7 ^ k * X) ≤ ent (upto far n k W) i j
 | 0, _ => fun i j hi hj => by
  have e : upto far n 0 W = W := rfl
  rw [e]
  have := h i j hi hj
  simpa using this
 | k + 1, hk => fun i j hi hj => by
  have hp : (0 : Int) ≤ 7 ^ k * X := Int.mul_nonneg (Int.le_of_lt (Int.pow_pos (by decide))) hX
  have := (low_at hp (hs.upto far n k) (show k < n by omega) far (low_upto hX hs far h k (by omega)) n (Nat.le_refl _)).all i j hi hj
  have e : upto far n (k + 1) W = stage far n (upto far n k W) k := fold_succ _ _ _
  rw [e, Int.pow_succ, Int.mul_comm (7 ^ k) 7, Int.mul_assoc]
  exact this
theorem low_in {n : Nat} {X : Int} {W : Mat} (hX : 0 ≤ X) (hs : Sq n W) (far : Int) (h : ∀ i j, i < n → j < n → -X ≤ ent W i j) {c a b : Nat} (hc : c < n) (ha : a < n) (hb : b ≤ n) :
  ∀ i j, i < n → j < n → -(7 ^ n * X) ≤ ent ((List.range b).foldl (upd far c a) ((List.range a).foldl (row far n c) (upto far n c W))) i j := by
 intro i j hi hj
 have hp : (0 : Int) ≤ 7 ^ c * X := Int.mul_nonneg (Int.le_of_lt (Int.pow_pos (by decide))) hX
 have hq := hs.upto far n c
 have := (lowIn_at hp (fold_ind (fun _ w => Sq n w) _ _ _ hq fun _ _ _ hw => hw.row _ _ _ _) ha hc far ((low_at hp hq hc far (low_upto hX hs far h c (by omega)) a (by omega)).to hp ha hc) b hb).all i j hi hj
 have hm : (7 : Int) ^ (c + 1) ≤ 7 ^ n := pow_le (by decide) _ (by omega)
 have hm' := Int.mul_le_mul_of_nonneg_right hm hX
 rw [Int.pow_succ, Int.mul_comm (7 ^ c) 7, Int.mul_assoc] at hm'
 refine Int.le_trans ?_ this
 omega
theorem high_in {n : Nat} {W : Mat} (hs : Sq n W) (far : Int) {c a b : Nat} (ha : a ≤ n) (hb : b ≤ n) (i j : Nat) (hab : b = 0 ∨ a < n) :
  ent ((List.range b).foldl (upd far c a) ((List.range a).foldl (row far n c) (upto far n c W))) i j ≤ ent W i j := by
 have h1 := upto_le hs far c i j
 have h2 := fold_ind (fun _ w => Sq n w ∧ ent w i j ≤ ent W i j) (row far n c) (upto far n c W) a ⟨hs.upto far n c, h1⟩ fun k hk w hw => ⟨hw.1.row _ _ _ _, Int.le_trans (row_le hw.1 (by omega) far c i j) hw.2⟩
 exact (fold_ind (fun _ w => Sq n w ∧ ent w i j ≤ ent W i j) (upd far c a) _ b h2 fun k hk w hw => ⟨hw.1.upd _ _ _ _, Int.le_trans (upd_le hw.1 (by omega) (by omega) far c i j) hw.2⟩).2
def closed (far : Int) (n : Nat) (W : Mat) : Option Mat :=
 if (List.range n).all fun i => decide (0 ≤ ent (upto far n n W) i i) then some (upto far n n W) else none
structure Closed (far : Int) (n : Nat) (W V : Mat) : Prop where
 sq : Sq n V
 le : ∀ i j, ent V i j ≤ ent W i j
 tri : ∀ i k j, i < n → k < n → j < n → ent V i k < far → ent V k j < far → ent V i j ≤ ent V i k + ent V k j ∧ ent V i j < far
 diag : ∀ i, i < n → ent V i i = 0
 obeys : ∀ x, Obeys far n W x → Obeys far n V x
end Go.Fw
end
section
namespace Go.Fw
structure Bd where
 a : Nat
 b : Nat
 m : Int
def addc (W : Mat) (c : Bd) : Mat := put W c.a c.b (min (ent W c.a c.b) c.m)
structure Good (far U B : Int) (n : Nat) (W : Mat) : Prop where
 sq : Sq n W
 diag : ∀ i, i < n → ent W i i = 0
 high : ∀ i j, i < n → j < n → ent W i j ≤ far
 small : ∀ i j, i < n → j < n → ent W i j < far → ent W i j ≤ U
 low : ∀ i j, i < n → j < n → -B ≤ ent W i j
structure Bd.Ok (U B : Int) (n : Nat) (c : Bd) : Prop where
 a : c.a < n
 b : c.b < n
 ne : c.a ≠ c.b
 low : -B ≤ c.m
 high : c.m ≤ U
theorem ent_addc {n : Nat} {W : Mat} (h : Sq n W) {c : Bd} (ha : c.a < n) (hb : c.b < n) (i j : Nat) : ent (addc W c) i j = if i = c.a ∧ j = c.b then min (ent W c.a c.b) c.m else ent W i j :=
 ent_put h ha hb _ i j
theorem Good.addc {far U B : Int} {n : Nat} {W : Mat} (h : Good far U B n W) {c : Bd} (hc : c.Ok U B n) : Good far U B n (addc W c) := by
 have e := ent_addc h.sq hc.a hc.b
 refine ⟨h.sq.put _ _ _, fun i hi => ?_, fun i j hi hj => ?_, fun i j hi hj hlt => ?_, fun i j hi hj => ?_⟩
 ·rw [e, if_neg (by have := hc.ne; omega)]; exact h.diag i hi
 ·rw [e]; split
  ·rename_i g; have := h.high i j hi hj; rw [g.1, g.2] at this; omega
  ·exact h.high i j hi hj
 ·rw [e] at hlt ⊢; split
  ·have := hc.high; omega
  ·rename_i g; rw [if_neg g] at hlt; exact h.small i j hi hj hlt
 ·rw [e]; split
  ·rename_i g; have := h.low i j hi hj; rw [g.1, g.2] at this; have := hc.low; omega
  ·exact h.low i j hi hj
theorem Good.fold {far U B : Int} {n : Nat} : ∀ {cs : List Bd} {W : Mat}, Good far U B n W → (∀ c ∈ cs, c.Ok U B n) → Good far U B n (cs.foldl Fw.addc W)
 | [], _, h, _ => h
 | c :: cs, _, h, hc => (h.addc (hc c List.mem_cons_self)).fold fun d hd => hc d (List.mem_cons_of_mem _ hd)
def base (far : Int) (n : Nat) : Mat := (List.range n).map fun a => (List.replicate n far).set a 0
theorem ent_base {far : Int} {n i j : Nat} (hi : i < n) (hj : j < n) : ent (base far n) i j = if i = j then 0 else far := by
 unfold ent base
 have e : (List.map (fun a => (List.replicate n far).set a 0) (List.range n)).getD i [] = (List.replicate n far).set i 0 := by
  rw [List.getD_eq_getElem?_getD, List.getElem?_map, List.getElem?_range hi]; rfl
 rw [e, List.getD_eq_getElem?_getD, List.getElem?_set]
 by_cases h : i = j
 ·subst h; simp [hi]
 ·rw [if_neg h, if_neg h, List.getElem?_replicate, if_pos hj]; rfl
theorem Good.base {far U B : Int} {n : Nat} (hf : 0 < far) (hU : 0 ≤ U) (hB : 0 ≤ B) : Good far U B n (base far n) := by
 refine ⟨⟨by simp [Fw.base], fun i r h => ?_⟩, fun i hi => by rw [ent_base hi hi, if_pos rfl], fun i j hi hj => ?_, fun i j hi hj => ?_, fun i j hi hj => ?_⟩
 ·have := List.mem_of_getElem? h
  simp only [Fw.base, List.mem_map] at this
  obtain ⟨a, _, rfl⟩ := this
  simp
 ·rw [ent_base hi hj]; split <;> omega
 ·rw [ent_base hi hj]; split <;> omega
 ·rw [ent_base hi hj]; split <;> omega
structure Tells (n : Nat) (P : (Nat → Int) → Prop) (V : Mat) : Prop where
 most : ∀ x, P x → ∀ a b, a < n → b < n → x b - x a ≤ ent V a b
 met : ∀ a, a < n → P fun b => ent V a b
 diag : ∀ a, a < n → ent V a a = 0
theorem addc_le {n : Nat} {W : Mat} (h : Sq n W) {c : Bd} (ha : c.a < n) (hb : c.b < n) (i j : Nat) : ent (addc W c) i j ≤ ent W i j := by
 rw [ent_addc h ha hb]; split
 ·rename_i g; rw [g.1, g.2]; omega
 ·omega
theorem fold_le {n : Nat} : ∀ {cs : List Bd} {W : Mat}, Sq n W → (∀ c ∈ cs, c.a < n ∧ c.b < n) → ∀ i j, ent (cs.foldl addc W) i j ≤ ent W i j
 | [], _, _, _, _, _ => Int.le_refl _
 | c :: cs, W, h, hc, i, j => by
  have h1 := hc c List.mem_cons_self
  exact Int.le_trans (fold_le (h.put _ _ _) (fun d hd => hc d (List.mem_cons_of_mem _ hd)) i j) (addc_le h h1.1 h1.2 i j)
end Go.Fw
end
section
namespace Go.Av.Fx
open Go Go.Av Go.Av.Tb Go.Proofs
open Go.Fw (Sq ent upd row stage upto closed)
def far : Int := 1099511627776
def row0 (n a : Nat) : List Int := (List.replicate n far).set a 0
def mat0 (n m : Nat) : List (List Int) := (List.range m).map (row0 n)
def wA (n : Nat) : Nat → AV
 | 0 => .nilS
 | m + 1 => .slice (rowsA (m + 1) n) (m + 1) (.tok m)
@[go_sem] theorem bs111 (i o n c : Nat) : buildSliceA T 111 1 [(0, .sref i o n c)] = some (.slice [.sref i o n c] 1 .exact) := rfl
theorem sr_appW {K : AV → St → Prop} {hK : Hold K} {h : List (Option Blk)} {k n : Nat} (hk : k ≤ 1000)
  (next : K (wA n (k + 1)) ⟨h, k + 1, toksN (k + 1)⟩) : sr K hK (appendA T ⟨h, k, toksN k⟩ 111 (wA n k) (.slice [.sref k 0 n n] 1 .exact)) ⟨h, k, toksN k⟩ := by
 cases k with
 | zero =>
  have : appendA T ⟨h, 0, toksN 0⟩ 111 (wA n 0) (.slice [.sref 0 0 n n] 1 .exact) = some (.tok none (fun j => .slice [.sref 0 0 n n] 1 (.tok j))) := rfl
  rw [this, sr_tok]; exact next
 | succ k =>
  show sr K hK (appendA T ⟨h, k + 1, toksN (k + 1)⟩ 111 (.slice (rowsA (k + 1) n) (k + 1) (.tok k)) _) _
  rw [app_gen (e := 22) (ei := ti22) (lx := [.sref (k + 1) 0 n n]) (nx := 1) rfl rfl (by decide) rfl (by decide) rfl (by show (k + 1 + 1) * 24 ≤ _; omega) (by omega) (by simp [ti22])]
  rw [sr_tok_some]
  refine ⟨List.mem_cons_self, ?_⟩
  have : killTok (toksN (k + 1)) (some k) = [] := by simp [killTok, toksN]
  show K (.slice (rowsA (k + 1) n ++ [.sref (k + 1) 0 n n]) (k + 1 + 1) (.tok (k + 1))) ⟨h, k + 1 + 1, (k + 1) :: killTok (toksN (k + 1)) (some k)⟩
  rw [this, rowsA_snoc]; exact next
def putB (R : List (List Int)) (x : Bound) : List (List Int) := Fw.addc R ⟨x.a.toNat, x.b.toNat, x.most⟩
theorem sq_mat0 (n : Nat) : Sq n (mat0 n n) := (Fw.Good.base (far := far) (U := 0) (B := 0) (by decide) (Int.le_refl _) (Int.le_refl _)).sq
theorem putB_eq {R : List (List Int)} {x : Bound} {a b : Nat} (ha : x.a = a) (hb : x.b = b) (h : a < R.length) (h' : b < R[a].length) : putB R x = R.set a (R[a].set b (if x.most < R[a][b] then x.most else R[a][b])) := by
 unfold putB Fw.addc Fw.put Fw.ent
 simp only [ha, hb, Int.toNat_natCast]
 have e : R.getD a [] = R[a] := by rw [List.getD_eq_getElem?_getD, List.getElem?_eq_getElem h]; rfl
 have e2 : R[a].getD b 0 = R[a][b] := by rw [List.getD_eq_getElem?_getD, List.getElem?_eq_getElem h']; rfl
 rw [e, e2]
 congr 2
 omega
def bd (x : Bound) : Fw.Bd := ⟨x.a.toNat, x.b.toNat, x.most⟩
def bsM (n : Nat) (bs : List Bound) : Fw.Mat := (bs.map bd).foldl Fw.addc (Fw.base far n)
def closeM (n : Nat) (bs : List Bound) : Option Fw.Mat := closed far n (bsM n bs)
def closeA : Option Fw.Mat → AV
 | none => .tuple [.nilS, .bool false]
 | some W => .tuple [.slice (W.map sl) W.length .unk, .bool true]
theorem closeA_bnd (o : Option Fw.Mat) : (closeA o).bnd 0 0 = true := by
 cases o with
 | none => rfl
 | some W =>
  have : bndL 0 0 (W.map sl) = true := bndL_map _ (fun _ => by simp [AV.bnd]) W
  simp [closeA, AV.bnd, bndL, this]
theorem bsM_eq (n : Nat) (bs : List Bound) : bs.foldl putB (mat0 n n) = bsM n bs := by
 unfold bsM; rw [List.foldl_map]; rfl
theorem bsM_low (n : Nat) (X : Int) (hX : 0 ≤ X) (bs : List Bound) (hin : ∀ x ∈ bs, 0 ≤ x.a ∧ x.a < n ∧ 0 ≤ x.b ∧ x.b < n) (hm : ∀ x ∈ bs, -X ≤ x.most) : ∀ i j, i < n → j < n → -X ≤ ent (bsM n bs) i j := by
 unfold bsM
 have : ∀ (bs : List Bound) (W : Fw.Mat), Sq n W → (∀ i j, i < n → j < n → -X ≤ ent W i j) → (∀ x ∈ bs, 0 ≤ x.a ∧ x.a < n ∧ 0 ≤ x.b ∧ x.b < n) → (∀ x ∈ bs, -X ≤ x.most) → ∀ i j, i < n → j < n → -X ≤ ent ((bs.map bd).foldl Fw.addc W) i j := by
  intro bs
  induction bs with
  | nil => exact fun W _ h _ _ => h
  | cons x bs ih =>
   intro W hW h h1 h2
   have hx := h1 x List.mem_cons_self
   refine ih _ (hW.put _ _ _) (fun i j hi hj => ?_) (fun y hy => h1 y (List.mem_cons_of_mem _ hy)) (fun y hy => h2 y (List.mem_cons_of_mem _ hy))
   rw [Fw.ent_addc hW (c := bd x) (by show x.a.toNat < n; omega) (by show x.b.toNat < n; omega)]
   split
   ·have := h _ _ (show (bd x).a < n by show x.a.toNat < n; omega) (show (bd x).b < n by show x.b.toNat < n; omega)
    have h3 : -X ≤ (bd x).m := h2 x List.mem_cons_self
    omega
   ·exact h i j hi hj
 refine this bs _ (sq_mat0 n) (fun i j hi hj => ?_) hin hm
 rw [Fw.ent_base hi hj]
 split
 ·omega
 ·show -X ≤ 1099511627776; omega
theorem bsM_high (n : Nat) (bs : List Bound) (hin : ∀ x ∈ bs, 0 ≤ x.a ∧ x.a < n ∧ 0 ≤ x.b ∧ x.b < n) (i j : Nat) (hi : i < n) (hj : j < n) : ent (bsM n bs) i j ≤ far := by
 unfold bsM
 refine Int.le_trans (Fw.fold_le (sq_mat0 n) (fun c hc => ?_) i j) ?_
 ·obtain ⟨x, hx, rfl⟩ := List.mem_map.1 hc
  have := hin x hx
  exact ⟨by show x.a.toNat < n; omega, by show x.b.toNat < n; omega⟩
 ·rw [show mat0 n n = Fw.base far n from rfl, Fw.ent_base hi hj]
  split
  ·decide
  ·exact Int.le_refl _
theorem cells_ent {n : Nat} {V : Fw.Mat} (h : Sq n V) {a : Nat} (ha : a < n) : cellsAt (heapR V) a = some (ints (V.getD a [])) := by
 have hl : a < V.length := by rw [h.1]; exact ha
 have := cellsAt_R (R := V) (g := []) hl
 rw [List.append_nil] at this
 rw [this, List.getD_eq_getElem?_getD, List.getElem?_eq_getElem hl]; rfl
theorem ints_ent {n : Nat} {V : Fw.Mat} (h : Sq n V) {a b : Nat} (ha : a < n) (hb : b < n) : (ints (V.getD a []))[b]? = some (.int .i64 (ent V a b)) := by
 rw [ints_get]
 have := h.getD ha
 unfold ent
 rw [List.getD_eq_getElem?_getD (l := V.getD a []), List.getElem?_eq_getElem (by omega)]; rfl
theorem setH_ent {n : Nat} {V : Fw.Mat} (h : Sq n V) {a : Nat} (ha : a < n) (b : Nat) (v : Int) : setH (heapR V) a (.cells ((ints (V.getD a [])).set b (.int .i64 v))) = heapR (Fw.put V a b v) := by
 have hl : a < V.length := by rw [h.1]; exact ha
 have := setH_R (R := V) (g := []) (r := (V.getD a []).set b v) hl
 rw [List.append_nil, List.append_nil] at this
 rw [ints_set, this]; rfl
theorem rows_frz {n : Nat} {V : Fw.Mat} (h : Sq n V) (t : Tail) (g : List (Option Blk)) : Frz (heapR V ++ g) (.slice (rowsA n n) n t) (.slice (V.map sl) V.length .unk) := by
 rw [h.1]
 refine .slice _ _ _ _ (by simp [h.1]) fun j x y hx hy => ?_
 have hj : j < n := by
  rcases Nat.lt_or_ge j n with h' | h'
  ·exact h'
  ·rw [List.getElem?_eq_none (by simpa using h')] at hx; cases hx
 have hl : j < V.length := by rw [h.1]; exact hj
 rw [rowsA_get hj] at hx
 simp only [Option.some.injEq] at hx
 subst hx
 rw [List.getElem?_map, List.getElem?_eq_getElem hl] at hy
 simp only [Option.map_some, Option.some.injEq] at hy
 subst hy
 have hlen : V[j].length = n := h.2 j _ (List.getElem?_eq_getElem hl)
 have := Frz.row (h := heapR V ++ g) j 0 n n 1 (ints V[j]) (heapR_get hl) (by simp [hlen]) (Nat.le_refl _)
 rw [List.drop_zero, List.take_of_length_le (by simp [hlen])] at this
 show Frz _ _ (.slice (ints V[j]) V[j].length .unk)
 rw [hlen]; exact this
theorem close_pc (n : Nat) (hn : 0 < n) (hn' : n ≤ 13) (bs : List Bound) (hb : bs.length ≤ 100000) (hin : ∀ x ∈ bs, 0 ≤ x.a ∧ x.a < n ∧ 0 ≤ x.b ∧ x.b < n) (hm : ∀ x ∈ bs, -1000000 ≤ x.most) :
  PC Tryz.prog 128 [.int .i64 n, .slice (bnds bs) bs.length .unk] (.pure (closeA (closeM n bs))) := by
 refine PC.of_frz (AC.run (E_ok _) mix Tryz.func128 m128 rfl rfl rfl (Nat.le_of_ble_eq_true rfl) ?_) (by simp [bndL, AV.bnd]) (closeA_bnd _)
 simp only [go_sem, reduceEqDiff, Nat.reduceBEq, reduceAdd, reduceIte, reduceCtorEq, reduceLeDiff]
 refine wc_for n (fun k => [(0, .int .i64 n), (1, .slice (bnds bs) bs.length .unk), (6, wA n k), (14, .int .i64 n), (15, .int .i64 k)]) (fun k => ⟨heapR (mat0 n k), k, toksN k⟩) rfl rfl ?_
 intro k hk I hI
 by_cases h : k < n
 ·have h' : (k : Int) < n := by omega
  have h4 : IntKind.i64.wrap ((k : Int) + 1) = (k + 1 : Nat) := wrap64 (by omega)
  simp only [go_sem, l128_0, h', decide_true, reduceEqDiff, Nat.reduceBEq, reduceAdd, reduceIte, reduceCtorEq, reduceLeDiff]
  refine ca n154 (repeat_pc far n hn (by omega)) (SubL.cons (Sub.unk _ 1 .exact) (SubL.refl _)) ?_
  have hl : (heapR (mat0 n k)).length = k := by simp [mat0]
  simp only [go_sem, hl, builtinA, reduceEqDiff, Nat.reduceBEq, reduceAdd, reduceIte, reduceCtorEq, reduceLeDiff]
  refine sr_appW (by omega) ?_
  simp only [go_sem, reduceEqDiff, Nat.reduceBEq, reduceAdd, reduceIte, reduceCtorEq, reduceLeDiff]
  have h2 : 0 ≤ (k : Int) ∧ (k : Int) < (k + 1 : Nat) := by omega
  have h3 : 0 ≤ (k : Int) ∧ (k : Int) < (n : Nat) := by omega
  have hw : wA n (k + 1) = .slice (rowsA (k + 1) n) (k + 1) (.tok k) := rfl
  have hr : (rowsA (k + 1) n)[k]? = some (.sref k 0 n n) := rowsA_get (by omega)
  have hc : cellsAt (heapR (mat0 n k) ++ [some (.cells (ints (List.replicate n far)))]) k = some (ints (List.replicate n far)) := by
   rw [heapR_snoc]
   have := cellsAt_R (R := mat0 n k ++ [List.replicate n far]) (g := []) (i := k) (by simp [mat0])
   rw [List.append_nil] at this
   rw [this]; simp [mat0]
  have hk1 : k + 1 ≤ n := h
  have hset : setH (heapR (mat0 n k) ++ [some (.cells (ints (List.replicate n far)))]) k (.cells ((ints (List.replicate n far)).set k (.int .i64 0))) = heapR (mat0 n (k + 1)) := by
   rw [heapR_snoc, ints_set]
   have := setH_R (g := []) (r := (List.replicate n far).set k 0) (R := mat0 n k ++ [List.replicate n far]) (i := k) (by simp [mat0])
   rw [List.append_nil, List.append_nil] at this
   rw [this]
   congr 1
   have hm : (mat0 n k).length = k := by simp [mat0]
   rw [List.set_append_right _ _ (by omega), hm, Nat.sub_self]
   simp [mat0, row0, List.range_succ]
  simp only [go_sem, hw, h2, h3, nat_idx, Nat.mul_one, and_self, hr, hc, AV.cells, AV.one, List.all_cons, List.all_nil, Bool.and_self, splice, ints_len, List.length_replicate, hk1, hset, h4, reduceEqDiff, Nat.reduceBEq, reduceAdd, reduceIte, reduceCtorEq, reduceLeDiff]
  exact hI h
 ·have h' : ¬ (k : Int) < n := by omega
  have hk' : k = n := by omega
  subst hk'
  obtain ⟨m, rfl⟩ : ∃ m, k = m + 1 := ⟨k - 1, by omega⟩
  have hw : wA (m + 1) (m + 1) = .slice (rowsA (m + 1) (m + 1)) (m + 1) (.tok m) := rfl
  simp only [go_sem, l128_0, h', decide_false, builtinA, hw, reduceEqDiff, Nat.reduceBEq, reduceAdd, reduceIte, reduceCtorEq, reduceLeDiff]
  clear hI hk h h'
  have sqk : ∀ k, Sq (m + 1) ((bs.take k).foldl putB (mat0 (m + 1) (m + 1))) := by
   intro k
   induction k with
   | zero => exact sq_mat0 _
   | succ k ih =>
    by_cases hk : k < bs.length
    ·rw [foldl_take _ _ _ _ hk]
     have := hin _ (List.getElem_mem hk)
     exact ih.put _ _ _
    ·rw [List.take_of_length_le (by omega)] at ih ⊢; exact ih
  refine wc_forG bs.length (fun k => [(0, .int .i64 (m + 1 : Nat)), (6, .slice (rowsA (m + 1) (m + 1)) (m + 1) (.tok m)), (31, .slice (bnds bs) bs.length .unk), (32, .int .i64 bs.length), (33, .int .i64 k)]) (fun k => ⟨heapR ((bs.take k).foldl putB (mat0 (m + 1) (m + 1))), m + 1, toksN (m + 1)⟩) rfl rfl (fun k hk => ?_) ?_
  ·refine ⟨Nat.zero_le _, Nat.zero_le _, ?_, fun i B hB => heapR_bnd hB, ?_⟩
   ·simp only [bndTS, AV.bnd, heapR_len, (sqk k).1]
    rw [rowsA_bnd (Nat.le_refl _)]; simp
   ·intro t ht; simp [toksN] at ht; simp; omega
  intro k hk I hI
  have sq := sqk k
  generalize hR : (bs.take k).foldl putB (mat0 (m + 1) (m + 1)) = R at *
  by_cases h : k < bs.length
  ·have h' : (k : Int) < bs.length := by omega
   have h2 : 0 ≤ (k : Int) ∧ (k : Int) < bs.length := by omega
   have h3 : k * 3 + 3 ≤ (bnds bs).length := by rw [bnds_len]; omega
   have h5 := bnds_at bs k h
   have h6 : IntKind.i64.wrap ((k : Int) + 1) = (k + 1 : Nat) := wrap64 (by omega)
   have hl : (heapR R).length = m + 1 := by simp [sq.1]
   simp only [go_sem, l128_1, h', decide_true, reduceEqDiff, Nat.reduceBEq, reduceAdd, reduceIte, reduceCtorEq, reduceLeDiff]
   simp only [go_sem, h2, nat_idx, and_self, h3, h5, hl, bndC, AV.cells, AV.one, List.all_cons, List.all_nil, Bool.and_self, reduceEqDiff, Nat.reduceBEq, reduceAdd, reduceIte, reduceCtorEq, reduceLeDiff]
   have c1 : ∀ l, cellsAt (heapR R ++ [some (.cells l)]) (m + 1) = some l := fun l => cellsAt_last sq.1
   have c2 : ∀ l B, setH (heapR R ++ [some (.cells l)]) (m + 1) B = heapR R ++ [some B] := fun l B => setH_last sq.1
   simp only [go_sem, c1, c2, splice, List.set_cons_zero, List.set_cons_succ, AV.cells, AV.one, List.all_cons, List.all_nil, Bool.and_self, and_self, reduceEqDiff, Nat.reduceBEq, reduceAdd, reduceIte, reduceCtorEq, reduceLeDiff]
   have hx := hin _ (List.getElem_mem h)
   have hI' := hI h
   rw [foldl_take _ _ _ _ h, hR] at hI'
   clear hI
   generalize bs[k] = x at hx hI' c1 c2 h5 ⊢
   obtain ⟨ai, hai⟩ : ∃ ai : Nat, x.a = ai := ⟨x.a.toNat, by omega⟩
   obtain ⟨bi, hbi⟩ : ∃ bi : Nat, x.b = bi := ⟨x.b.toNat, by omega⟩
   rw [hai, hbi] at hx
   have x1 : 0 ≤ (ai : Int) ∧ (ai : Int) < (m + 1 : Nat) := ⟨hx.1, hx.2.1⟩
   have x2 : 0 ≤ (bi : Int) ∧ (bi : Int) < (m + 1 : Nat) := ⟨hx.2.2.1, hx.2.2.2⟩
   have hlt : ai < R.length := by rw [sq.1]; omega
   have hblt : bi < R[ai].length := by rw [sq.2 ai _ (List.getElem?_eq_getElem hlt)]; omega
   have hr1 : (rowsA (m + 1) (m + 1))[ai]? = some (.sref ai 0 (m + 1) (m + 1)) := rowsA_get (by omega)
   have hr2 : ∀ g, cellsAt (heapR R ++ g) ai = some (ints R[ai]) := fun g => cellsAt_R hlt
   have hr3 : (ints R[ai])[bi]? = some (.int .i64 R[ai][bi]) := by rw [ints_get, List.getElem?_eq_getElem hblt]; rfl
   have hlen : R[ai].length = m + 1 := sq.2 ai _ (List.getElem?_eq_getElem hlt)
   have hk1 : bi + 1 ≤ m + 1 := by omega
   have hset : ∀ v g, setH (heapR R ++ g) ai (.cells ((ints R[ai]).set bi (.int .i64 v))) = heapR (R.set ai (R[ai].set bi v)) ++ g := fun v g => by rw [ints_set]; exact setH_R hlt
   simp only [go_sem, hai, hbi, x1, x2, nat_idx, Nat.mul_one, and_self, hr1, hr2, hr3, c1, builtinA, minsA, AV.cells, AV.one, List.all_cons, List.all_nil, Bool.and_self, splice, ints_len, hlen, hk1, hset, h6, reduceEqDiff, Nat.reduceBEq, reduceAdd, reduceIte, reduceCtorEq, reduceLeDiff]
   have := hI' [some (.cells [.int .i64 ai, .int .i64 bi, .int .i64 x.most])]
   rw [putB_eq hai hbi hlt hblt] at this
   exact this
  ·have h' : ¬ (k : Int) < bs.length := by omega
   rw [List.take_of_length_le (by omega), bsM_eq] at hR
   simp only [go_sem, l128_1, h', decide_false, reduceEqDiff, Nat.reduceBEq, reduceAdd, reduceIte, reduceCtorEq, reduceLeDiff]
   clear hI hk h h' sqk hw I
   have mlow := bsM_low (m + 1) 1000000 (by decide) bs hin hm
   have mhigh := bsM_high (m + 1) bs hin
   have sqR := sq
   rw [← hR] at sqR
   have h7 : (7 : Int) ^ (m + 1) ≤ 7 ^ 13 := Fw.pow_le (by decide) _ hn'
   refine wc_for (m + 1) (fun k => [(0, .int .i64 (m + 1 : Nat)), (6, .slice (rowsA (m + 1) (m + 1)) (m + 1) (.tok m)), (58, .int .i64 (m + 1 : Nat)), (59, .int .i64 k)]) (fun k => ⟨heapR (upto far (m + 1) k R), m + 1, toksN (m + 1)⟩) rfl rfl ?_
   intro c hc I hI
   by_cases h : c < m + 1
   ·have h' : (c : Int) < (m + 1 : Nat) := by omega
    have h6 : IntKind.i64.wrap ((c : Int) + 1) = (c + 1 : Nat) := wrap64 (by omega)
    have sqc : Sq (m + 1) (upto far (m + 1) c R) := sq.upto far (m + 1) c
    simp only [go_sem, l128_2, h', decide_true, reduceEqDiff, Nat.reduceBEq, reduceAdd, reduceIte, reduceCtorEq, reduceLeDiff]
    refine wc_for (m + 1) (fun k => [(0, .int .i64 (m + 1 : Nat)), (6, .slice (rowsA (m + 1) (m + 1)) (m + 1) (.tok m)), (58, .int .i64 (m + 1 : Nat)), (59, .int .i64 c), (10, .int .i64 c), (62, .int .i64 (m + 1 : Nat)), (63, .int .i64 k)]) (fun k => ⟨heapR ((List.range k).foldl (row far (m + 1) c) (upto far (m + 1) c R)), m + 1, toksN (m + 1)⟩) rfl rfl ?_
    intro a ha I2 hI2
    by_cases hA : a < m + 1
    ·have hA' : (a : Int) < (m + 1 : Nat) := by omega
     have hA6 : IntKind.i64.wrap ((a : Int) + 1) = (a + 1 : Nat) := wrap64 (by omega)
     have sqa : Sq (m + 1) ((List.range a).foldl (row far (m + 1) c) (upto far (m + 1) c R)) := Fw.fold_ind (fun _ w => Sq (m + 1) w) _ _ _ sqc fun _ _ _ hw => hw.row _ _ _ _
     simp only [go_sem, l128_3, hA', decide_true, reduceEqDiff, Nat.reduceBEq, reduceAdd, reduceIte, reduceCtorEq, reduceLeDiff]
     refine wc_for (m + 1) (fun k => [(0, .int .i64 (m + 1 : Nat)), (6, .slice (rowsA (m + 1) (m + 1)) (m + 1) (.tok m)), (58, .int .i64 (m + 1 : Nat)), (59, .int .i64 c), (10, .int .i64 c), (62, .int .i64 (m + 1 : Nat)), (63, .int .i64 a), (11, .int .i64 a), (66, .int .i64 (m + 1 : Nat)), (67, .int .i64 k)]) (fun k => ⟨heapR ((List.range k).foldl (upd far c a) ((List.range a).foldl (row far (m + 1) c) (upto far (m + 1) c R))), m + 1, toksN (m + 1)⟩) rfl rfl ?_
     intro b hb3 I3 hI3
     by_cases hB : b < m + 1
     ·have hB' : (b : Int) < (m + 1 : Nat) := by omega
      have hB6 : IntKind.i64.wrap ((b : Int) + 1) = (b + 1 : Nat) := wrap64 (by omega)
      have sqb : Sq (m + 1) ((List.range b).foldl (upd far c a) ((List.range a).foldl (row far (m + 1) c) (upto far (m + 1) c R))) := Fw.fold_ind (fun _ w => Sq (m + 1) w) _ _ _ sqa fun _ _ _ hw => hw.upd _ _ _ _
      have hnext := hI3 hB
      rw [Fw.fold_succ] at hnext
      have low := Fw.low_in (n := m + 1) (X := 1000000) (W := R) (by decide) sq far (by rw [← hR]; exact mlow) (c := c) (a := a) (b := b) h hA (by omega)
      have high : ∀ i j, i < m + 1 → j < m + 1 → ent ((List.range b).foldl (upd far c a) ((List.range a).foldl (row far (m + 1) c) (upto far (m + 1) c R))) i j ≤ far := fun i j hi hj =>
       Int.le_trans (Fw.high_in (n := m + 1) (W := R) sq far (c := c) (a := a) (b := b) (by omega) (by omega) i j (.inr hA)) (by rw [← hR]; exact mhigh i j hi hj)
      generalize (List.range b).foldl (upd far c a) ((List.range a).foldl (row far (m + 1) c) (upto far (m + 1) c R)) = V at *
      have xa : 0 ≤ (a : Int) ∧ (a : Int) < (m + 1 : Nat) := by omega
      have xb : 0 ≤ (b : Int) ∧ (b : Int) < (m + 1 : Nat) := by omega
      have xc : 0 ≤ (c : Int) ∧ (c : Int) < (m + 1 : Nat) := by omega
      have ra : (rowsA (m + 1) (m + 1))[a]? = some (.sref a 0 (m + 1) (m + 1)) := rowsA_get hA
      have rc : (rowsA (m + 1) (m + 1))[c]? = some (.sref c 0 (m + 1) (m + 1)) := rowsA_get h
      have ca := cells_ent sqb hA
      have cc := cells_ent sqb h
      have eac := ints_ent sqb hA h
      have ecb := ints_ent sqb h hB
      have eab := ints_ent sqb hA hB
      have k1 : b + 1 ≤ m + 1 := by omega
      have lenA := sqb.getD hA
      have sset := setH_ent sqb hA b
      have w1 := low a c hA h
      have w2 := low c b h hB
      have w3 := high a c hA h
      have w4 := high c b h hB
      have hwrap : IntKind.i64.wrap (ent V a c + ent V c b) = ent V a c + ent V c b := wrap64 (by
       have e7 : (7 : Int) ^ 13 = 96889010407 := by decide
       have ef : far = 1099511627776 := rfl
       omega)
      simp only [go_sem, l128_4, hB', decide_true, reduceEqDiff, Nat.reduceBEq, reduceAdd, reduceIte, reduceCtorEq, reduceLeDiff]
      by_cases g1 : ent V a c < 1099511627776
      ·by_cases g2 : ent V c b < 1099511627776
       ·have hu : upd far c a V b = Fw.put V a b (if ent V a c + ent V c b < ent V a b then ent V a c + ent V c b else ent V a b) := by
         unfold upd
         rw [if_pos ⟨g1, g2⟩]
         congr 1
         omega
        rw [hu] at hnext
        simp only [go_sem, xa, xb, xc, ra, rc, ca, cc, eac, ecb, eab, g1, g2, nat_idx, Nat.mul_one, and_self, decide_true, hwrap, builtinA, minsA, AV.cells, AV.one, List.all_cons, List.all_nil, Bool.and_self, splice, ints_len, lenA, k1, sset, hB6, reduceEqDiff, Nat.reduceBEq, reduceAdd, reduceIte, reduceCtorEq, reduceLeDiff]
        exact hnext
       ·have hu : upd far c a V b = V := by
         unfold upd
         rw [if_neg (fun x => g2 x.2)]
        rw [hu] at hnext
        simp only [go_sem, xa, xb, xc, ra, rc, ca, cc, eac, ecb, eab, g1, g2, nat_idx, Nat.mul_one, and_self, decide_true, decide_false, hB6, reduceEqDiff, Nat.reduceBEq, reduceAdd, reduceIte, reduceCtorEq, reduceLeDiff]
        exact hnext
      ·have hu : upd far c a V b = V := by
        unfold upd
        rw [if_neg (fun x => g1 x.1)]
       rw [hu] at hnext
       simp only [go_sem, xa, xb, xc, ra, rc, ca, cc, eac, ecb, eab, g1, nat_idx, Nat.mul_one, and_self, decide_false, hB6, reduceEqDiff, Nat.reduceBEq, reduceAdd, reduceIte, reduceCtorEq, reduceLeDiff]
       exact hnext
     ·have hB' : ¬ (b : Int) < (m + 1 : Nat) := by omega
      simp only [go_sem, l128_4, hB', decide_false, hA6, reduceEqDiff, Nat.reduceBEq, reduceAdd, reduceIte, reduceCtorEq, reduceLeDiff]
      have := hI2 hA
      rw [Fw.fold_succ] at this
      rw [show b = m + 1 by omega]
      exact this
    ·have hA' : ¬ (a : Int) < (m + 1 : Nat) := by omega
     simp only [go_sem, l128_3, hA', decide_false, h6, reduceEqDiff, Nat.reduceBEq, reduceAdd, reduceIte, reduceCtorEq, reduceLeDiff]
     have := hI h
     rw [show upto far (m + 1) (c + 1) R = stage far (m + 1) (upto far (m + 1) c R) c from Fw.fold_succ _ _ _] at this
     rw [show a = m + 1 by omega]
     exact this
   ·have h' : ¬ (c : Int) < (m + 1 : Nat) := by omega
    have hcm : c = m + 1 := by omega
    subst hcm
    simp only [go_sem, l128_2, h', decide_false, reduceEqDiff, Nat.reduceBEq, reduceAdd, reduceIte, reduceCtorEq, reduceLeDiff]
    clear hI hc h h' I
    have sqV : Sq (m + 1) (upto far (m + 1) (m + 1) R) := sq.upto far (m + 1) (m + 1)
    have hcm : closeM (m + 1) bs = if (List.range (m + 1)).all fun i => decide (0 ≤ ent (upto far (m + 1) (m + 1) R) i i) then some (upto far (m + 1) (m + 1) R) else none := by
     unfold closeM closed; rw [hR]
    generalize upto far (m + 1) (m + 1) R = V at *
    refine wc_forP (m + 1) (fun k => ∀ i, i < k → 0 ≤ ent V i i) (fun k => [(6, .slice (rowsA (m + 1) (m + 1)) (m + 1) (.tok m)), (120, .int .i64 (m + 1 : Nat)), (121, .int .i64 k)]) (fun k => ⟨heapR V, m + 1, toksN (m + 1)⟩) (fun i hi => absurd hi (Nat.not_lt_zero _)) rfl rfl ?_
    intro a ha hP I hI
    by_cases h : a < m + 1
    ·have h' : (a : Int) < (m + 1 : Nat) := by omega
     have h6 : IntKind.i64.wrap ((a : Int) + 1) = (a + 1 : Nat) := wrap64 (by omega)
     have xa : 0 ≤ (a : Int) ∧ (a : Int) < (m + 1 : Nat) := by omega
     have ra : (rowsA (m + 1) (m + 1))[a]? = some (.sref a 0 (m + 1) (m + 1)) := rowsA_get h
     have ca := cells_ent sqV h
     have eaa := ints_ent sqV h h
     simp only [go_sem, l128_5, h', decide_true, xa, ra, ca, eaa, nat_idx, Nat.mul_one, and_self, reduceEqDiff, Nat.reduceBEq, reduceAdd, reduceIte, reduceCtorEq, reduceLeDiff]
     by_cases g : ent V a a < 0
     ·simp only [go_sem, g, decide_true, Tryz.f128, reduceEqDiff, Nat.reduceBEq, reduceAdd, reduceIte, reduceCtorEq, reduceLeDiff]
      refine ⟨_, rfl, ?_⟩
      rw [hcm, if_neg (fun hall => by
       rw [List.all_eq_true] at hall
       have := hall a (List.mem_range.2 h)
       rw [decide_eq_true_iff] at this; omega)]
      exact .same _
     ·simp only [go_sem, g, decide_false, h6, reduceEqDiff, Nat.reduceBEq, reduceAdd, reduceIte, reduceCtorEq, reduceLeDiff]
      refine hI h fun i hi => ?_
      by_cases e : i = a
      ·subst e; omega
      ·exact hP i (by omega)
    ·have h' : ¬ (a : Int) < (m + 1 : Nat) := by omega
     simp only [go_sem, l128_5, h', decide_false, Tryz.f128, reduceEqDiff, Nat.reduceBEq, reduceAdd, reduceIte, reduceCtorEq, reduceLeDiff]
     refine ⟨_, rfl, ?_⟩
     rw [hcm, if_pos (by rw [List.all_eq_true]; intro i hi; rw [decide_eq_true_iff]; exact hP i (by have := List.mem_range.1 hi; omega))]
     refine .tuple _ _ rfl fun j x y hx hy => ?_
     match j, hx, hy with
     | 0, hx, hy =>
      simp at hx hy; subst hx; subst hy
      have := rows_frz sqV (.tok m) []
      rw [List.append_nil] at this; exact this
     | 1, hx, hy => simp at hx hy; subst hx; subst hy; exact .same _
     | j + 2, hx, hy => simp at hx
end Go.Av.Fx
end
