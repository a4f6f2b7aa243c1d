/- Part 25 of the proof. -/
import Derived.Test.YtlagjjpbknpdkaaGreatDoorVk24
set_option linter.all false
set_option linter.unusedVariables false
set_option linter.unusedSimpArgs false
set_option linter.unusedSectionVars false
open Nat (reduceEqDiff reduceAdd reduceLeDiff)
section
namespace Go.Av.Fx
open Go Go.Av Go.Proofs
open Go.Fw (Sq ent Bd Mat)
theorem addK_mem {ks : List Int} {n x : Int} : x ∈ addK ks n ↔ x ∈ ks ∨ x = n := by
 unfold addK
 split
 ·rename_i h
  rw [List.contains_iff_mem] at h
  exact ⟨.inl, fun hh => hh.elim id fun e => e ▸ h⟩
 ·simp
theorem addK_nd {ks : List Int} {n : Int} (h : ks.Nodup) : (addK ks n).Nodup := by
 unfold addK
 split
 ·exact h
 ·rename_i hn
  rw [List.nodup_append]
  refine ⟨h, by simp, fun a ha b hb e => ?_⟩
  simp at hb
  subst hb; subst e
  exact hn (List.contains_iff_mem.2 ha)
theorem addKs : ∀ (s : List Int) (ks : List Int), (ks.Nodup → (s.foldl addK ks).Nodup) ∧ ∀ x, x ∈ s.foldl addK ks ↔ x ∈ ks ∨ x ∈ s
 | [], ks => ⟨id, fun x => by simp⟩
 | a :: s, ks => by
  obtain ⟨h1, h2⟩ := addKs s (addK ks a)
  refine ⟨fun h => h1 (addK_nd h), fun x => ?_⟩
  rw [List.foldl_cons, h2, addK_mem, List.mem_cons]
  constructor
  ·rintro ((h | h) | h)
   ·exact .inl h
   ·exact .inr (.inl h)
   ·exact .inr (.inr h)
  ·rintro (h | h | h)
   ·exact .inl (.inl h)
   ·exact .inl (.inr h)
   ·exact .inr h
def seen (n p : Nat) (lo hi : Int) (t : Theft) : Prop := ¬ (spanM t.2 n p).low > hi ∧ ¬ (spanM t.2 n p).high < lo
theorem sus_fold (n p : Nat) (lo hi : Int) : ∀ (L : List Theft) (acc : Bool × List Int), acc.2.Nodup →
  (L.foldl (susStep n p lo hi) acc).2.Nodup ∧ ((L.foldl (susStep n p lo hi) acc).1 = true ↔ acc.1 = true ∨ ∃ t ∈ L, seen n p lo hi t) ∧ ∀ x, x ∈ (L.foldl (susStep n p lo hi) acc).2 ↔ x ∈ acc.2 ∨ ∃ t ∈ L, seen n p lo hi t ∧ x ∈ t.1
 | [], acc, h => ⟨h, by simp, fun x => by simp⟩
 | t :: L, acc, h => by
  rw [List.foldl_cons]
  by_cases hs : seen n p lo hi t
  ·have e : susStep n p lo hi acc t = (true, t.1.foldl addK acc.2) := by
    unfold susStep; rw [if_neg hs.1, if_neg hs.2]
   rw [e]
   obtain ⟨k1, k2⟩ := addKs t.1 acc.2
   obtain ⟨h1, h2, h3⟩ := sus_fold n p lo hi L (true, t.1.foldl addK acc.2) (k1 h)
   refine ⟨h1, ?_, fun x => ?_⟩
   ·rw [h2]
    exact ⟨fun _ => .inr ⟨t, List.mem_cons_self, hs⟩, fun _ => .inl rfl⟩
   ·rw [h3, k2]
    constructor
    ·rintro ((h | h) | ⟨t', ht, hh⟩)
     ·exact .inl h
     ·exact .inr ⟨t, List.mem_cons_self, hs, h⟩
     ·exact .inr ⟨t', List.mem_cons_of_mem _ ht, hh⟩
    ·rintro (h | ⟨t', ht, hh⟩)
     ·exact .inl (.inl h)
     ·rcases List.mem_cons.1 ht with rfl | ht
      ·exact .inl (.inr hh.2)
      ·exact .inr ⟨t', ht, hh⟩
  ·have e : susStep n p lo hi acc t = acc := by
    unfold susStep
    unfold seen at hs
    split
    ·rfl
    ·split
     ·rfl
     ·rename_i a b; exact absurd ⟨a, b⟩ hs
   rw [e]
   obtain ⟨h1, h2, h3⟩ := sus_fold n p lo hi L acc h
   refine ⟨h1, ?_, fun x => ?_⟩
   ·rw [h2]
    constructor
    ·rintro (h | ⟨t', ht, hh⟩)
     ·exact .inl h
     ·exact .inr ⟨t', List.mem_cons_of_mem _ ht, hh⟩
    ·rintro (h | ⟨t', ht, hh⟩)
     ·exact .inl h
     ·rcases List.mem_cons.1 ht with rfl | ht
      ·exact absurd hh hs
      ·exact .inr ⟨t', ht, hh⟩
   ·rw [h3]
    constructor
    ·rintro (h | ⟨t', ht, hh⟩)
     ·exact .inl h
     ·exact .inr ⟨t', List.mem_cons_of_mem _ ht, hh⟩
    ·rintro (h | ⟨t', ht, hh⟩)
     ·exact .inl h
     ·rcases List.mem_cons.1 ht with rfl | ht
      ·exact absurd hh.1 hs
      ·exact .inr ⟨t', ht, hh⟩
theorem cntS_eq : ∀ (n : Nat) (U : List Int), U.Nodup → (∀ x ∈ U, ∃ i : Nat, i < n ∧ x = i) → (U.length : Int) = cntS U n
 | 0, U, _, h => by
  cases U with
  | nil => rfl
  | cons a U => obtain ⟨i, hi, _⟩ := h a List.mem_cons_self; omega
 | n + 1, U, hd, h => by
  have same : ∀ (V : List Int), (∀ i : Nat, i < n → V.contains (i : Int) = U.contains (i : Int)) → ∀ k, k ≤ n → cntS V k = cntS U k := by
   intro V hV k
   induction k with
   | zero => intro _; rfl
   | succ k ih => intro hk; unfold cntS; rw [ih (by omega), hV k (by omega)]
  by_cases hn : (n : Int) ∈ U
  ·have hl := List.length_erase_of_mem hn
   have hpos : 0 < U.length := List.length_pos_of_mem hn
   have ih := cntS_eq n (U.erase (n : Int)) (hd.erase _) (fun x hx => by
    rw [hd.mem_erase_iff] at hx
    obtain ⟨i, hi, rfl⟩ := h x hx.2
    exact ⟨i, by omega, rfl⟩)
   rw [same (U.erase (n : Int)) (fun i hi => by
    rw [Bool.eq_iff_iff, List.contains_iff_mem, List.contains_iff_mem, hd.mem_erase_iff]
    exact ⟨fun hh => hh.2, fun hh => ⟨by omega, hh⟩⟩) n (Nat.le_refl _)] at ih
   unfold cntS
   rw [if_pos (List.contains_iff_mem.2 hn), ← ih]
   omega
  ·have ih := cntS_eq n U hd (fun x hx => by
    obtain ⟨i, hi, rfl⟩ := h x hx
    refine ⟨i, ?_, rfl⟩
    by_cases e : i = n
    ·subst e; exact absurd hx hn
    ·omega)
   unfold cntS
   rw [if_neg (fun hh => hn (List.contains_iff_mem.1 hh)), ← ih]
   omega
theorem added_out {l : LLine} (h : Lw l) (hc : l.counts.length < 1000) {p read off : Int} (hp : 0 ≤ p ∧ p ≤ l.gives.length) (hr : 0 ≤ read ∧ read ≤ 400) (ho : 0 ≤ off) (s : List Int) :
  s ∈ setsOut (addedL l p read off) ↔ ∃ t ∈ theftsL l, seen (l.gives.length + 1) p.toNat (susLo read off) (susHi read off) t ∧ t.1 = s := by
 rw [setsOut_eq, List.mem_filter, added_expl h hc hp hr ho]
 constructor
 ·rintro ⟨h1, W, h2, h3⟩
  exact ⟨(s, W), mem_thefts.2 ⟨h1, h2⟩, h3, rfl⟩
 ·rintro ⟨t, h1, h2, rfl⟩
  obtain ⟨h3, h4⟩ := mem_thefts.1 h1
  exact ⟨h3, t.2, h4, h2⟩
theorem sus_eq {l : LLine} (h : Lw l) (hc : l.counts.length < 1000) {p : Nat} {read off : Int} (hp : p ≤ l.gives.length) (hr : 0 ≤ read ∧ read ≤ 400) (ho : 0 ≤ off) :
  susL l (theftsL l) p read off = if possB (addedL l p read off) = true then susR (addedL l p read off) else -1 := by
 have hout := added_out h hc (p := (p : Int)) (by omega) hr ho
 rw [Int.toNat_natCast] at hout
 obtain ⟨h1, h2, h3⟩ := sus_fold (l.gives.length + 1) p (susLo read off) (susHi read off) (theftsL l) (false, []) List.nodup_nil
 unfold susL
 generalize (theftsL l).foldl (susStep (l.gives.length + 1) p (susLo read off) (susHi read off)) (false, []) = acc at h1 h2 h3 ⊢
 have hw := added_lw h hc (p := (p : Int)) (read := read) (off := off) (by omega) hr ho
 have hg : (addedL l p read off).gives = l.gives := rfl
 generalize addedL l p read off = x at *
 have e1 : (acc.1 = true) ↔ possB x = true := by
  rw [h2, poss_out]
  constructor
  ·rintro (hh | ⟨t, ht, hs⟩)
   ·cases hh
   ·exact List.length_pos_of_mem ((hout t.1).2 ⟨t, ht, hs, rfl⟩)
  ·intro hh
   obtain ⟨s, hs⟩ := List.exists_mem_of_length_pos hh
   obtain ⟨t, ht, hs, _⟩ := (hout s).1 hs
   exact .inr ⟨t, ht, hs⟩
 by_cases hpx : possB x = true
 case neg => rw [if_neg (fun hh => hpx (e1.1 hh)), if_neg hpx]
 rw [if_pos (e1.2 hpx), if_pos hpx]
 have hm : ∀ y, y ∈ acc.2 ↔ ∃ s ∈ setsOut x, y ∈ s := fun y => by
  rw [h3]
  constructor
  ·rintro (hh | ⟨t, ht, hs, hy⟩)
   ·cases hh
   ·exact ⟨t.1, (hout t.1).2 ⟨t, ht, hs, rfl⟩, hy⟩
  ·rintro ⟨s, hs, hy⟩
   obtain ⟨t, ht, hq, e⟩ := (hout s).1 hs
   exact .inr ⟨t, ht, hq, by rw [e]; exact hy⟩
 have hin : ∀ y ∈ acc.2, ∃ i : Nat, i < l.gives.length ∧ y = i := fun y hy => by
  obtain ⟨s, hs, hys⟩ := (hm y).1 hy
  have := setsL_in ((mem_setsOut hw).1 hs).1 y hys
  rw [hg] at this
  exact ⟨y.toNat, by omega, by omega⟩
 rw [cntS_eq l.gives.length acc.2 h1 hin]
 have hl : (rKnown x).length = l.gives.length := by simp [rKnown, hg]
 unfold susR
 rw [hl]
 have hpos := poss_out.1 hpx
 have key : ∀ k, k ≤ l.gives.length → cntS acc.2 k = cntNe (rKnown x) k := by
  intro k
  induction k with
  | zero => intro _; rfl
  | succ k ih =>
   intro hk
   unfold cntS cntNe
   rw [ih (by omega)]
   have hw1 : (rKnown x).getD k 0 = rWord (setsOut x) k := by
    rw [List.getD_eq_getElem?_getD]
    unfold rKnown
    rw [List.getElem?_map, List.getElem?_range (by rw [hg]; omega), rSets_eq hw]; rfl
   rw [hw1]
   have hiff : acc.2.contains (k : Int) = true ↔ rWord (setsOut x) k ≠ 1 := by
    rw [List.contains_iff_mem, hm]
    have hc : (∃ s ∈ setsOut x, (k : Int) ∈ s) ↔ 0 < ((setsOut x).filter fun s => s.contains (k : Int)).length := by
     constructor
     ·rintro ⟨s, hs, hk⟩
      exact List.length_pos_of_mem (List.mem_filter.2 ⟨hs, List.contains_iff_mem.2 hk⟩)
     ·intro hh
      obtain ⟨s, hs⟩ := List.exists_mem_of_length_pos hh
      exact ⟨s, (List.mem_filter.1 hs).1, List.contains_iff_mem.1 (List.mem_filter.1 hs).2⟩
    rw [hc]
    unfold rWord
    split
    ·rename_i e; exact ⟨fun _ => by decide, fun _ => by omega⟩
    ·split
     ·rename_i e; exact ⟨fun hh => by omega, fun hh => absurd rfl hh⟩
     ·rename_i e; exact ⟨fun _ => by decide, fun _ => by omega⟩
   by_cases hz : rWord (setsOut x) k ≠ 1
   ·rw [if_pos (hiff.2 hz), if_pos hz]
   ·rw [if_neg (fun hh => hz (hiff.1 hh)), if_neg hz, Int.add_zero]
 exact key _ (Nat.le_refl _)
theorem worst_eq {l : LLine} (h : Lw l) (hc : l.counts.length < 1000) (hpo : possB l = true) {p : Nat} {off : Int} (hp : p ≤ l.gives.length) (ho : 0 ≤ off) : worstL l (theftsL l) p off = worstR l p off 401 := by
 have step : ∀ k, k ≤ 401 → (List.range k).foldl (worstStep l (theftsL l) p off) 0 = (if worstR l p off k < 0 then 0 else worstR l p off k) ∧ -1 ≤ worstR l p off k ∧ ∀ j, j < k → possB (addedL l p j off) = true → 0 ≤ worstR l p off k := by
  intro k
  induction k with
  | zero => intro _; exact ⟨rfl, Int.le_refl _, fun j hj => by omega⟩
  | succ k ih =>
   intro hk
   obtain ⟨h1, h2, h3⟩ := ih (by omega)
   rw [List.range_succ, List.foldl_append, h1]
   have hs := sus_eq h hc (p := p) (read := (k : Int)) (off := off) hp (by omega) ho
   have hb := susR_bd (l := addedL l p k off)
   have hr : worstR l p off (k + 1) = if possB (addedL l p k off) = true then (if susR (addedL l p k off) > worstR l p off k then susR (addedL l p k off) else worstR l p off k) else worstR l p off k := rfl
   show (worstStep l (theftsL l) p off _ k = _) ∧ _
   unfold worstStep
   rw [hs, hr]
   by_cases hq : possB (addedL l p k off) = true
   ·rw [if_pos hq, if_pos hq]
    refine ⟨?_, ?_, fun j hj hj2 => ?_⟩
    ·split <;> split <;> (try split) <;> (try split) <;> omega
    ·split <;> omega
    ·split <;> omega
   ·rw [if_neg hq, if_neg hq]
    refine ⟨?_, h2, fun j hj hj2 => ?_⟩
    ·split <;> (try split) <;> omega
    ·by_cases e : j = k
     ·subst e; exact absurd hj2 hq
     ·exact h3 j (by omega) hj2
 obtain ⟨h1, h2, h3⟩ := step 401 (Nat.le_refl _)
 obtain ⟨f, hf⟩ := (poss_fa h).1 hpo
 have hb := fa_bd h hf hp
 have : 0 ≤ worstR l p off 401 := h3 (f p).toNat (by omega) (by
  have e : ((f p).toNat : Int) = f p := by omega
  rw [e]
  have hwx := added_lw h hc (p := (p : Int)) (read := f p) (off := off) (by omega) hb ho
  refine (poss_fa hwx).2 ⟨f, more_fa.2 ⟨hf, ?_⟩⟩
  rw [show ((⟨(p : Int), susLo (f p) off, susHi (f p) off⟩ : Cnt).point).toNat = p from Int.toNat_natCast p]
  show susLo (f p) off ≤ f p ∧ f p ≤ susHi (f p) off
  unfold susLo susHi
  constructor <;> split <;> omega)
 unfold worstL
 rw [h1, if_neg (by omega)]
end Go.Av.Fx
end
