/- Part 23 of the proof. -/
import Derived.Test.YtlagjjpbknpdkaaGreatDoorP22
set_option linter.all false
set_option linter.unusedVariables false
set_option linter.unusedSimpArgs false
set_option linter.unusedSectionVars false
open Nat (reduceEqDiff reduceAdd reduceLeDiff)
section
namespace Go.Av.Fx
open Go Go.Av Go.Proofs
def numOk2 (n : Nat) : Bool := (itoaB n).data.toList.all fun b => b != 10
set_option maxRecDepth 1000000 in
theorem nums_ok2 : (List.range 1000).all numOk2 = true := by decide +kernel
theorem num_no {n : Int} (h : 0 ≤ n ∧ n ≤ 999) : (10 : UInt8) ∉ (itoaB n).data.toList := by
 obtain ⟨k, rfl⟩ : ∃ k : Nat, n = k := ⟨n.toNat, by omega⟩
 have := List.all_eq_true.1 nums_ok2 k (List.mem_range.2 (by omega))
 unfold numOk2 at this
 rw [List.all_eq_true] at this
 intro hh
 have := this _ hh; simp at this
theorem row_no2 : ∀ (ns : List Int) (o : ByteArray), (10 : UInt8) ∉ o.data.toList → (∀ n ∈ ns, 0 ≤ n ∧ n ≤ 999) → (10 : UInt8) ∉ (rowN o ns).data.toList
 | [], o, ho, _ => ho
 | n :: ns, o, ho, h => by
  refine row_no2 ns (o ++ (sp ++ itoaB n)) ?_ fun x hx => h x (List.mem_cons_of_mem _ hx)
  rw [app_list, app_list, List.mem_append, List.mem_append]
  rintro (hh | hh | hh)
  ·exact ho hh
  ·revert hh; decide
  ·exact num_no (h n List.mem_cons_self) hh
def Small (l : LLine) : Prop := (∀ n ∈ [l.least, l.most, l.taps], 0 ≤ n ∧ n ≤ 999) ∧ (∀ n ∈ l.gives, 0 ≤ n ∧ n ≤ 999) ∧ ∀ c ∈ l.counts, ∀ n ∈ [c.point, c.low, c.high], 0 ≤ n ∧ n ≤ 999
theorem told_small {r : ByteArray} {k m : Nat} {ns : List Int} (h : toldB r k m = some ns) : ns.length = m ∧ ∀ n ∈ ns, 0 ≤ n ∧ n ≤ 999 := by
 unfold toldB at h
 split at h
 ·rename_i hh
  cases h
  obtain ⟨h1, _, h3⟩ := hh
  refine ⟨by simp; omega, fun n hn => ?_⟩
  obtain ⟨x, hx, rfl⟩ := List.mem_map.1 hn
  exact okW_bd (List.all_eq_true.1 h3 x hx)
 ·cases h
theorem step_small {l l' : LLine} {r : ByteArray} (h : stepR l r = some l') (hl : Small l) : Small l' := by
 unfold stepR at h
 split at h
 ·cases ht : toldB r 1 1 with
  | none => rw [ht] at h; cases h
  | some ns =>
   rw [ht] at h; cases h
   obtain ⟨h1, h2⟩ := told_small ht
   match ns, h1 with
   | [a], _ =>
    refine ⟨hl.1, fun n hn => ?_, hl.2.2⟩
    rcases List.mem_append.1 hn with hn | hn
    ·exact hl.2.1 n hn
    ·simp at hn; subst hn; exact h2 n List.mem_cons_self
 ·cases ht : toldB r 2 3 with
  | none => rw [ht] at h; cases h
  | some ns =>
   rw [ht] at h; cases h
   obtain ⟨h1, h2⟩ := told_small ht
   match ns, h1 with
   | [a, b, c], _ =>
    refine ⟨hl.1, hl.2.1, fun x hx => ?_⟩
    rcases List.mem_append.1 hx with hx | hx
    ·exact hl.2.2 x hx
    ·simp at hx; subst hx
     exact h2
theorem fold_small : ∀ (R : List ByteArray) {l l' : LLine}, foldR l R = some l' → Small l → Small l'
 | [], l, l', h, hl => by cases h; exact hl
 | r :: R, l, l', h, hl => by
  unfold foldR at h
  cases hx : stepR l r with
  | none => rw [hx] at h; cases h
  | some l1 => rw [hx] at h; exact fold_small R h (step_small hx hl)
theorem parsed_small {s : ByteArray} {l : LLine} (h : parsedB s = some l) : Small l := by
 obtain ⟨_, _, ns, h1, h2⟩ := parsedB_some h
 obtain ⟨h3, h4⟩ := told_small h1
 match ns, h3 with
 | [a, b, c], _ =>
  have h0 : Small ⟨[], a, b, c, []⟩ := ⟨h4, (fun n hn => by cases hn), (fun x hx => by cases hx)⟩
  exact fold_small _ h2 h0
theorem small_rows {l : LLine} (h : Small l) : ∀ r ∈ rowsL l, (10 : UInt8) ∉ r.data.toList := fun r hr => by
 unfold rowsL at hr
 rcases List.mem_cons.1 hr with rfl | hr
 ·exact row_no2 _ _ (word_no 0 (by decide)) h.1
 ·rcases List.mem_append.1 hr with hr | hr
  ·obtain ⟨n, hn, rfl⟩ := List.mem_map.1 hr
   exact row_no2 _ _ (word_no 1 (by decide)) fun x hx => by simp at hx; subst hx; exact h.2.1 _ hn
  ·obtain ⟨c, hcc, rfl⟩ := List.mem_map.1 hr
   exact row_no2 _ _ (word_no 2 (by decide)) (h.2.2 c hcc)
end Go.Av.Fx
end
section
namespace Go.Av.Fx
open Go Go.Av Go.Proofs
def Dig (u v : UInt8) : Prop := u ≠ v ∧ u.toNat ≤ v.toNat + 9 ∧ v.toNat ≤ u.toNat + 9
theorem catL_inj : ∀ {R R' : List ByteArray}, (∀ r ∈ R, (10 : UInt8) ∉ r.data.toList) → (∀ r ∈ R', (10 : UInt8) ∉ r.data.toList) → catL R = catL R' → R = R' := by
 intro R R' h h' e
 have h1 := cat_split R h
 have h2 := cat_split R' h'
 rw [e, h2] at h1
 exact (List.append_cancel_right h1).symm
def endOk (a : Nat) : Bool := (List.range 157).all fun b => decide (a = b) || decide ((endB a).data.toList ≠ (endB b).data.toList)
set_option maxRecDepth 1000000 in
theorem ends_ok : (List.range 157).all endOk = true := by decide +kernel
theorem end_inj {a b : Int} (ha : 0 ≤ a ∧ a < 157) (hb : 0 ≤ b ∧ b < 157) (e : endB a = endB b) : a = b := by
 obtain ⟨x, rfl⟩ : ∃ x : Nat, a = x := ⟨a.toNat, by omega⟩
 obtain ⟨y, rfl⟩ : ∃ y : Nat, b = y := ⟨b.toNat, by omega⟩
 have h := List.all_eq_true.1 ends_ok x (List.mem_range.2 (by omega))
 unfold endOk at h
 have h := List.all_eq_true.1 h y (List.mem_range.2 (by omega))
 rw [Bool.or_eq_true, decide_eq_true_iff, decide_eq_true_iff] at h
 rcases h with h | h
 ·omega
 ·exact absurd (by rw [e]) h
end Go.Av.Fx
end
section
namespace Go.Av.Fx
open Go Go.Av Go.Proofs
theorem ba_get (r : ByteArray) (k : Nat) : r[k]? = r.data.toList[k]? := by
 rw [Array.getElem?_toList]; rfl
theorem row_change {r r' : ByteArray} (h : Chg1 Dig r.data.toList r'.data.toList) : r'.size = r.size ∧ ∃ (p d : Nat), p < r.size ∧ 1 ≤ d ∧ d ≤ 9 ∧ (rs r' r'.size = rs r r.size + ((d * (p + 1) : Nat) : Int) ∨ rs r' r'.size = rs r r.size - ((d * (p + 1) : Nat) : Int)) := by
 obtain ⟨x, y, u, v, h1, h2, ⟨h3, h4, h5⟩, _, _⟩ := h
 have hs : r.size = x.length + 1 + y.length := by
  have : r.size = r.data.toList.length := by rw [Array.length_toList]; rfl
  rw [this, h1]; simp; omega
 have hs' : r'.size = x.length + 1 + y.length := by
  have : r'.size = r'.data.toList.length := by rw [Array.length_toList]; rfl
  rw [this, h2]; simp; omega
 have hk : ∀ k, k ≠ x.length → r'[k]? = r[k]? := fun k hk => by
  rw [ba_get, ba_get, h1, h2]
  rcases Nat.lt_or_ge k x.length with g | g
  ·rw [List.getElem?_append_left g, List.getElem?_append_left g]
  ·rw [List.getElem?_append_right g, List.getElem?_append_right g]
   obtain ⟨q, hq⟩ : ∃ q, k - x.length = q + 1 := ⟨k - x.length - 1, by omega⟩
   rw [hq]; rfl
 have gu : r[x.length]? = some u := by rw [ba_get, h1]; simp
 have gv : r'[x.length]? = some v := by rw [ba_get, h2]; simp
 have hn : u.toNat ≠ v.toNat := fun e => h3 (UInt8.toNat_inj.1 e)
 have hc := rs_change hk r.size
 rw [gu, gv, if_pos (by omega)] at hc
 simp only [Option.getD_some] at hc
 refine ⟨by omega, ?_⟩
 rw [show r'.size = r.size by omega, hc]
 rcases Nat.lt_or_ge u.toNat v.toNat with g | g
 ·refine ⟨x.length, v.toNat - u.toNat, by omega, by omega, by omega, .inl ?_⟩
  rw [Int.natCast_mul, show (((v.toNat - u.toNat : Nat)) : Int) = (v.toNat : Int) - u.toNat by omega]
 ·refine ⟨x.length, u.toNat - v.toNat, by omega, by omega, by omega, .inr ?_⟩
  rw [Int.natCast_mul, show (((u.toNat - v.toNat : Nat)) : Int) = (u.toNat : Int) - v.toNat by omega, Int.sub_mul, Int.sub_mul]
  omega
theorem ck_rows {A B : List ByteArray} {r r' : ByteArray} : ck (A ++ r' :: B) (A ++ r' :: B).length = ck (A ++ r :: B) (A ++ r :: B).length + (rs r' r'.size - rs r r.size) * (A.length + 1 : Nat) := by
 have g : ∀ q : ByteArray, (A ++ q :: B).getD A.length ByteArray.empty = q := fun q => by
  rw [List.getD_eq_getElem?_getD, List.getElem?_append_right (Nat.le_refl _), Nat.sub_self]; rfl
 have h : ∀ k, k ≠ A.length → (A ++ r' :: B).getD k ByteArray.empty = (A ++ r :: B).getD k ByteArray.empty := fun k hk => by
  rw [List.getD_eq_getElem?_getD, List.getD_eq_getElem?_getD]
  rcases Nat.lt_or_ge k A.length with g1 | g1
  ·rw [List.getElem?_append_left g1, List.getElem?_append_left g1]
  ·rw [List.getElem?_append_right g1, List.getElem?_append_right g1]
   obtain ⟨q, hq⟩ : ∃ q, k - A.length = q + 1 := ⟨k - A.length - 1, by omega⟩
   rw [hq]; rfl
 have hl : (A ++ r' :: B).length = (A ++ r :: B).length := by simp
 have := ck_change h (A ++ r' :: B).length
 rw [if_pos (by simp), g, g] at this
 rw [this, hl]
theorem spoilt_none {l : LLine} (h : Ln l) {s : ByteArray} (hc : Chg1 Dig (textB l).data.toList s.data.toList) : parsedB s = none := by
 cases hp : parsedB s with
 | none => rfl
 | some l' =>
  exfalso
  obtain ⟨_, ht, _⟩ := parsedB_some hp
  have hsm := parsed_small hp
  have hck := ck_ln h
  have hr : ∀ r ∈ rowsL l ++ [endB (ckL l)], (10 : UInt8) ∉ r.data.toList := fun r hr => by
   rcases List.mem_append.1 hr with hr | hr
   ·have h1 := h.least; have h2 := h.most; have h3 := h.taps
    refine small_rows (l := l) ⟨fun n hn => by simp at hn; omega, fun n hn => by have := h.gives n hn; omega, fun c hcc n hn => ?_⟩ r hr
    have := h.counts c hcc
    have := h.pts
    simp at hn
    omega
   ·simp at hr; subst hr; exact end_no (by omega)
  rw [text_cat] at hc ht
  obtain ⟨A, r, r', B, e1, e2, e3, e4⟩ := chg_rows _ _ hc hr
  have hs : s = catL (A ++ r' :: B) := ba_ext e2
  have hnn : ∀ (R : List ByteArray) (k : Nat), 0 ≤ ck R k := fun R k => by
   induction k with
   | zero => exact Int.le_refl _
   | succ k ih =>
    have := (rs_bd (R.getD k ByteArray.empty) (R.getD k ByteArray.empty).size).1
    have : 0 ≤ rs (R.getD k ByteArray.empty) (R.getD k ByteArray.empty).size * ((k + 1 : Nat) : Int) := Int.mul_nonneg this (by omega)
    show 0 ≤ ck R k + _
    omega
  have hm : ∀ q : LLine, ckL q = ck (rowsL q) (rowsL q).length % 157 := fun q => by
   unfold ckL; exact Int.tmod_eq_emod_of_nonneg (hnn _ _)
  have hck' : 0 ≤ ckL l' ∧ ckL l' < 157 := by rw [hm]; omega
  have hr' : ∀ q ∈ rowsL l' ++ [endB (ckL l')], (10 : UInt8) ∉ q.data.toList := fun q hq => by
   rcases List.mem_append.1 hq with hq | hq
   ·exact small_rows hsm q hq
   ·simp at hq; subst hq; exact end_no (by omega)
  have hAB : ∀ q ∈ A ++ r' :: B, (10 : UInt8) ∉ q.data.toList := fun q hq => by
   rcases List.mem_append.1 hq with hq | hq
   ·exact hr q (by rw [e1]; exact List.mem_append_left _ hq)
   ·rcases List.mem_cons.1 hq with rfl | hq
    ·exact e4
    ·exact hr q (by rw [e1]; exact List.mem_append_right _ (List.mem_cons_of_mem _ hq))
  have eq := catL_inj hr' hAB (by rw [ht, hs])
  obtain ⟨hsz, p, d, hpr, hd1, hd2, hrs⟩ := row_change e3
  rcases List.eq_nil_or_concat B with rfl | ⟨B0, e, rfl⟩
  ·have k1 := List.append_inj' e1 rfl
   have k2 := List.append_inj' eq rfl
   have hck2 : ckL l' = ckL l := by rw [hm, hm, k2.1, k1.1]
   have hrr : r' = r := by
    have a := k1.2; have b := k2.2
    simp at a b
    rw [← a, ← b, hck2]
   rw [hrr] at hrs
   have : 1 ≤ d * (p + 1) := Nat.mul_pos (by omega) (by omega)
   rcases hrs with hrs | hrs <;> omega
  ·rw [List.concat_eq_append, ← List.cons_append, ← List.append_assoc] at e1
   rw [List.concat_eq_append, ← List.cons_append, ← List.append_assoc] at eq
   have k1 := List.append_inj' e1 rfl
   have k2 := List.append_inj' eq rfl
   have hce : ckL l = ckL l' := by
    have a := k1.2; have b := k2.2
    simp at a b
    exact end_inj hck hck' (by rw [a, b])
   have hrow := ck_rows (A := A) (B := B0) (r := r) (r' := r')
   rw [← k1.1, ← k2.1] at hrow
   have hp17 := rows_ln h r (by rw [k1.1]; simp)
   have hAl : A.length < 20 := by
    have : (rowsL l).length = A.length + (B0.length + 1) := by rw [k1.1]; simp
    have h2 : (rowsL l).length = l.gives.length + l.counts.length + 1 := by simp [rowsL]
    have := h.pts; have := h.cts
    omega
   have hx := mul_no (d := d) (p := p) (i := A.length) ⟨hd1, hd2⟩ (by omega) hAl
   rw [hm, hm] at hce
   have hX : ((d * (p + 1) : Nat) : Int) * ((A.length + 1 : Nat) : Int) = ((d * (p + 1) * (A.length + 1) : Nat) : Int) := by rw [Int.natCast_mul (d * (p + 1))]
   generalize d * (p + 1) * (A.length + 1) = X at hx hX
   rcases hrs with hrs | hrs
   ·rw [hrs, show rs r r.size + ((d * (p + 1) : Nat) : Int) - rs r r.size = ((d * (p + 1) : Nat) : Int) by omega, hX] at hrow
    omega
   ·rw [hrs, show rs r r.size - ((d * (p + 1) : Nat) : Int) - rs r r.size = -((d * (p + 1) : Nat) : Int) by omega, Int.neg_mul, hX] at hrow
    omega
end Go.Av.Fx
end
