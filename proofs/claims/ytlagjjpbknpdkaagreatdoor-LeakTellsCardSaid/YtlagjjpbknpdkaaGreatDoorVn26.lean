/- Part 26 of the proof. -/
import Derived.Test.YtlagjjpbknpdkaaGreatDoorVn25
set_option linter.all false
set_option linter.unusedVariables false
set_option linter.unusedSimpArgs false
set_option linter.unusedSectionVars false
open Nat (reduceEqDiff reduceAdd reduceLeDiff)
section
namespace Go.Av.Fx
open Go Go.Av Go.Av.Tb Go.Proofs
def dropM (p : List Int → Bool) (below : Nat) : Nat → List Int → Nat → Option (List Int)
 | 0, now, _ => if p now = true then some now else none
 | m + 1, now, fr => firstN (fun n => dropM p below m (now ++ [(n : Int)]) (n + 1)) fr (below - fr)
theorem firstN_more {f : Nat → Option (List Int)} (s : Nat) : ∀ (r n : Nat), (∀ i, n + r ≤ i → i < n + r + s → f i = none) → firstN f n (r + s) = firstN f n r
 | 0, n, h => by
  rw [Nat.zero_add]
  induction s generalizing n with
  | zero => rfl
  | succ s ih =>
   unfold firstN
   rw [h n (by omega) (by omega)]
   exact ih (n + 1) fun i h1 h2 => h i (by omega) (by omega)
 | r + 1, n, h => by
  rw [show r + 1 + s = (r + s) + 1 by omega]
  unfold firstN
  cases f n with
  | some x => rfl
  | none => exact firstN_more s r (n + 1) fun i h1 h2 => h i (by omega) (by omega)
theorem search_none {p : List Int → Bool} {below m : Nat} {now : List Int} {fr : Nat} (h : below < fr + m) (hm : 0 < m) : searchL p below m now fr = none := by
 cases m with
 | zero => omega
 | succ m =>
  unfold searchL
  rw [show below + 1 - (fr + (m + 1)) = 0 by omega]; rfl
theorem drop_eq' (p : List Int → Bool) (below : Nat) : ∀ (m : Nat) (now : List Int) (fr : Nat), dropM p below m now fr = searchL p below m now fr
 | 0, now, fr => rfl
 | m + 1, now, fr => by
  unfold dropM searchL
  have e : (fun n : Nat => dropM p below m (now ++ [(n : Int)]) (n + 1)) = fun n : Nat => searchL p below m (now ++ [(n : Int)]) (n + 1) := by
   funext n; exact drop_eq' p below m _ _
  rw [e]
  obtain ⟨s, hs⟩ : ∃ s, below - fr = (below + 1 - (fr + (m + 1))) + s := ⟨below - fr - (below + 1 - (fr + (m + 1))), by omega⟩
  rw [hs]
  refine firstN_more s _ _ fun i h1 h2 => ?_
  exact search_none (by omega) (by omega)
def dropA (p : List Int → Bool) (below m : Nat) (now : List Int) (fr : Nat) : AV := match m with
 | 0 => .tuple [sl now, .bool (p now)]
 | m + 1 => match dropM p below (m + 1) now fr with
  | some r => .tuple [sl r, .bool true]
  | none => .tuple [sl [], .bool false]
theorem dropA_bnd (p : List Int → Bool) (below m : Nat) (now : List Int) (fr : Nat) : (dropA p below m now fr).bnd 0 0 = true := by
 unfold dropA
 split
 ·simp [bndL, AV.bnd]
 ·split <;> simp [bndL, AV.bnd]
theorem dropA_is (p : List Int → Bool) (below m : Nat) (now : List Int) (fr : Nat) : ∃ x : List Int, dropA p below m now fr = .tuple [sl x, .bool (dropM p below m now fr).isSome] ∧ ∀ r, dropM p below m now fr = some r → x = r := by
 unfold dropA
 cases m with
 | zero =>
  refine ⟨now, ?_, fun r hr => ?_⟩
  ·unfold dropM
   cases p now <;> rfl
  ·unfold dropM at hr
   split at hr
   ·cases hr; rfl
   ·cases hr
 | succ m =>
  cases hd : dropM p below (m + 1) now fr with
  | some r => exact ⟨r, by simp only [hd]; rfl, fun r' h => by cases h; rfl⟩
  | none => exact ⟨[], by simp only [hd]; rfl, fun r' h => by cases h⟩
theorem app_nil22 {S : St} {l : List Int} {t : Tail} (h0 : 0 < l.length) (hl : l.length ≤ 1000) : appendA T S 22 .nilS (.slice (ints l) l.length t) = some (.tok none fun j => .slice (ints l) l.length (.tok j)) := by
 have h1 : descOf T 22 = some (.slice 3) := rfl
 have h2 : T 3 = some ti3 := rfl
 have h3 : ti3.size = 1 := rfl
 have h4 : ti3.bytes = 8 := rfl
 have h5 : heldA S 1 (.slice (ints l) l.length t) = some (ints l, l.length) := by
  show (if (ints l).length = l.length * 1 then some (ints l, l.length) else none) = _
  rw [if_pos (by rw [ints_len]; omega)]
 unfold appendA
 simp only [h1, h2, h3, h4, h5, ints_all, Bool.not_true, Bool.false_eq_true, if_false]
 rw [if_neg (by decide), if_neg (by omega), if_pos (by omega)]
theorem app_tok22 {S : St} {l : List Int} {c : Int} {k : Nat} (hl : l.length ≤ 1000) : appendA T S 22 (.slice (ints l) l.length (.tok k)) (.slice [.int .i64 c] 1 .exact) = some (.tok (some k) fun j => .slice (ints (l ++ [c])) (l.length + 1) (.tok j)) := by
 rw [app_gen (e := 3) (ei := ti3) (lx := [.int .i64 c]) (nx := 1) rfl rfl (by decide) rfl (by decide) rfl (by show (l.length + 1) * 8 ≤ _; omega) (by omega) (by rw [ints_len]; simp [ti3])]
 show some (Res.tok (some k) fun j => .slice (ints l ++ ints [c]) (l.length + 1) (.tok j)) = _
 have : ints l ++ ints [c] = ints (l ++ [c]) := by simp [ints]
 rw [this]
theorem sl_snoc {l : List Int} {c : Int} {j : Nat} : Sub (.slice (ints (l ++ [c])) (l.length + 1) (.tok j)) (sl (l ++ [c])) := by
 have e : (l ++ [c]).length = l.length + 1 := by simp
 show Sub _ (.slice (ints (l ++ [c])) (l ++ [c]).length .unk)
 rw [e]; exact Sub.unk _ _ _
theorem firstN_step (f : Nat → Option (List Int)) (n r : Nat) : firstN f n (r + 1) = match f n with | some x => some x | none => firstN f (n + 1) r := rfl
def After (now : List Int) (fr : Nat) : Prop := (now.length = 0 ∧ fr = 0) ∨ ∃ k, now.length = k + 1 ∧ now[k]? = some ((fr : Int) - 1)
end Go.Av.Fx
end
section
namespace Go.Av.Fx
open Go Go.Av Go.Av.Tb Go.Proofs
theorem dropA0 (p : List Int → Bool) (below m : Nat) : dropA p below m [] 0 = .tuple [sl ((searchL p below m [] 0).getD []), .bool (searchL p below m [] 0).isSome] := by
 rw [← drop_eq']
 unfold dropA
 cases m with
 | zero =>
  unfold dropM
  cases p [] <;> rfl
 | succ m =>
  cases hd : dropM p below (m + 1) [] 0 with
  | some r => simp only [hd]; rfl
  | none => simp only [hd]; rfl
end Go.Av.Fx
end
section
namespace Go.Av.Fx
open Go Go.Av Go.Av.Tb Go.Proofs
set_option maxHeartbeats 1000000 in
theorem tell_loop (l : LLine) (hc : l.gives.length ≤ 8) (many : Nat) (off : Int) (now : List Int) (hn : now.length ≤ 1000) (fr m : Nat) (p : List Int → Bool) (hf : fr ≤ 1000)
  (ih : ∀ n : Nat, n < l.gives.length + 1 → PC Tryz.prog 103 [lineA l, sl (now ++ [(n : Int)]), .int .i64 many, .int .i64 off] (.pure (dropA p (l.gives.length + 1) m (now ++ [(n : Int)]) (n + 1)))) (Q : AQ)
  (hret : ∀ r nt toks, firstN (fun n => dropM p (l.gives.length + 1) m (now ++ [(n : Int)]) (n + 1)) fr (l.gives.length + 1 - fr) = some r → Q .ret [(8, sl r), (9, .bool true)] ⟨[some (.cells (lineC l))], nt, toks⟩)
  (hend : firstN (fun n => dropM p (l.gives.length + 1) m (now ++ [(n : Int)]) (n + 1)) fr (l.gives.length + 1 - fr) = none → ∀ k : Int, Q .normal [(1, sl now), (2, .int .i64 many), (3, .int .i64 off), (4, .ref 0 0), (11, .int .i64 k), (38, .bool false)] ⟨[some (.cells (lineC l))], 0, []⟩) :
  WC (E 55) (.loop l103_0) (blockQ 0 Q) [(1, sl now), (2, .int .i64 many), (3, .int .i64 off), (4, .ref 0 0), (11, .int .i64 fr)] ⟨[some (.cells (lineC l))], 0, []⟩ := by
 generalize hF : (fun n : Nat => dropM p (l.gives.length + 1) m (now ++ [(n : Int)]) (n + 1)) = F at hret hend
 refine wc_forT (l.gives.length + 1 - fr) (fun k => firstN F fr (l.gives.length + 1 - fr) = firstN F (fr + k) (l.gives.length + 1 - fr - k)) (fun k => [(1, sl now), (2, .int .i64 many), (3, .int .i64 off), (4, .ref 0 0), (11, .int .i64 (fr + k : Nat))])
  (fun _ => ⟨[some (.cells (lineC l))], 0, []⟩) rfl rfl rfl (fun k hk => ?_) ?_
 ·refine ⟨Nat.zero_le _, Nat.zero_le _, by simp [bndTS, AV.bnd], fun i B hB => ?_, fun t ht => by cases ht⟩
  match i, hB with
  | 0, hB => simp at hB; subst hB; simp [Blk.bnd, bndL, AV.bnd]
  | i + 1, hB => simp at hB
 intro k hk hP I hI
 obtain ⟨C, hB⟩ : ∃ C, l103_0 = .seq (.seq (.region [1, 2, 3, 4, 11, 38] r103_7) (.cond (.tmp 38) .skip (.exit 0))) C := ⟨_, rfl⟩
 have hB2 := hB
 rw [hB]
 by_cases h : fr + k < l.gives.length + 1
 ·have h1 : ((fr + k : Nat) : Int) ≤ l.gives.length := by omega
  have h4 : IntKind.i64.wrap (((fr + k : Nat) : Int) + 1) = (fr + (k + 1) : Nat) := wrap64 (by omega)
  have hI := hI (by omega)
  obtain ⟨q, hq⟩ : ∃ q, l.gives.length + 1 - fr - k = q + 1 := ⟨l.gives.length + 1 - fr - k - 1, by omega⟩
  rw [hq, firstN_step] at hP
  obtain ⟨x, ex, hx⟩ := dropA_is p (l.gives.length + 1) m (now ++ [((fr + k : Nat) : Int)]) (fr + k + 1)
  have hC := ih (fr + k) h
  rw [ex] at hC
  have eF : F (fr + k) = dropM p (l.gives.length + 1) m (now ++ [((fr + k : Nat) : Int)]) (fr + k + 1) := by rw [← hF]
  rw [← eF] at hC hx
  simp only [go_sem, builtinA, h1, decide_true, reduceEqDiff, Nat.reduceBEq, reduceAdd, reduceIte, reduceCtorEq, reduceLeDiff]
  unfold l103_0 at hB2
  injection hB2 with _ hB2
  subst hB2
  simp only [go_sem, builtinA, decide_true, reduceEqDiff, Nat.reduceBEq, reduceAdd, reduceIte, reduceCtorEq, reduceLeDiff]
  rcases Nat.eq_zero_or_pos now.length with h0 | h0
  ·have hnow : now = [] := List.length_eq_zero_iff.1 h0
   have a1 : ∀ S, appendA T S 22 .nilS (sl now) = some (.pure .nilS) := fun S => by rw [hnow]; rfl
   have a2 : ∀ S (c : Int), appendA T S 22 .nilS (.slice [.int .i64 c] 1 .exact) = some (.tok none fun j => .slice [.int .i64 c] 1 (.tok j)) := fun S c => rfl
   simp only [go_sem, builtinA, a1, a2, reduceEqDiff, Nat.reduceBEq, reduceAdd, reduceIte, reduceCtorEq, reduceLeDiff]
   refine qp n103 hC (SubL.cons (Sub.refl _) (SubL.cons (by rw [hnow]; exact Sub.unk _ _ _) (SubL.refl _))) ?_
   cases hr : F (fr + k) with
   | none =>
    rw [hr] at hP
    simp only [go_sem, extractA, Option.isSome_none, h4, reduceEqDiff, Nat.reduceBEq, reduceAdd, reduceIte, reduceCtorEq, reduceLeDiff]
    exact hI (by rw [hP, show fr + k + 1 = fr + (k + 1) by omega, show l.gives.length + 1 - fr - (k + 1) = q by omega]) _ _ (Nat.zero_le _) (fun t ht => by cases ht)
   | some r =>
    rw [hr] at hP
    rw [hx r hr]
    simp only [go_sem, extractA, Option.isSome_some, reduceEqDiff, Nat.reduceBEq, reduceAdd, reduceIte, reduceCtorEq, reduceLeDiff]
    exact hret r _ _ hP
  ·have a1 : ∀ S, appendA T S 22 .nilS (sl now) = some (.tok none fun j => .slice (ints now) now.length (.tok j)) := fun S => app_nil22 h0 hn
   have a2 : ∀ S k' (c : Int), appendA T S 22 (.slice (ints now) now.length (.tok k')) (.slice [.int .i64 c] 1 .exact) = some (.tok (some k') fun j => .slice (ints (now ++ [c])) (now.length + 1) (.tok j)) := fun S k' c => app_tok22 hn
   simp only [go_sem, builtinA, a1, a2, reduceEqDiff, Nat.reduceBEq, reduceAdd, reduceIte, reduceCtorEq, reduceLeDiff]
   refine ⟨List.mem_cons_self, ?_⟩
   refine qp n103 hC (SubL.cons (Sub.refl _) (SubL.cons sl_snoc (SubL.refl _))) ?_
   cases hr : F (fr + k) with
   | none =>
    rw [hr] at hP
    simp only [go_sem, extractA, Option.isSome_none, h4, reduceEqDiff, Nat.reduceBEq, reduceAdd, reduceIte, reduceCtorEq, reduceLeDiff]
    exact hI (by rw [hP, show fr + k + 1 = fr + (k + 1) by omega, show l.gives.length + 1 - fr - (k + 1) = q by omega]) _ _ (Nat.zero_le _) (fun t ht => by cases ht)
   | some r =>
    rw [hr] at hP
    rw [hx r hr]
    simp only [go_sem, extractA, Option.isSome_some, reduceEqDiff, Nat.reduceBEq, reduceAdd, reduceIte, reduceCtorEq, reduceLeDiff]
    exact hret r _ _ hP
 ·have h1 : ¬ ((fr + k : Nat) : Int) ≤ l.gives.length := by omega
  rw [show l.gives.length + 1 - fr - k = 0 by omega] at hP
  simp only [go_sem, builtinA, h1, decide_false, reduceEqDiff, Nat.reduceBEq, reduceAdd, reduceIte, reduceCtorEq, reduceLeDiff]
  exact hend hP _
theorem now_next {l : LLine} {now : List Int} {fr n : Nat} (h : PtsIn l now) (hn : n < l.gives.length + 1) : PtsIn l (now ++ [(n : Int)]) := fun p hp => by
 rcases List.mem_append.1 hp with hp | hp
 ·exact h p hp
 ·rw [List.mem_singleton] at hp; subst hp; omega
theorem telling_pc (l : LLine) (h : Lw l) (off : Int) (ho : 0 ≤ off ∧ off ≤ 20) (many : Nat) (hm : many ≤ 100) : ∀ (m : Nat) (now : List Int) (fr : Nat), now.length + m = many → After now fr → PtsIn l now → fr ≤ 100 →
  PC Tryz.prog 103 [lineA l, sl now, .int .i64 many, .int .i64 off] (.pure (dropA (fun w => rTellsB l w off) (l.gives.length + 1) m now fr))
 | 0, now, fr, hl, ha, hi, hf => by
  have hc := h.pts
  refine PC.of_empty (AC.run (E_ok _) mix Tryz.func103 m103 rfl rfl rfl (Nat.le_of_ble_eq_true rfl) ?_) (by simp [bndL, AV.bnd]) (dropA_bnd _ _ _ _ _)
  have h1 : (now.length : Int) = many := by omega
  simp only [go_sem, boxA, builtinA, h1, decide_true, reduceEqDiff, Nat.reduceBEq, reduceAdd, reduceIte, reduceCtorEq, reduceLeDiff]
  refine cp n52 (rTells_pc l h now (by omega) hi off ho) (SubL.refl _) ?_
  simp only [go_sem, Tryz.f103, reduceEqDiff, Nat.reduceBEq, reduceAdd, reduceIte, reduceCtorEq, reduceLeDiff]
  rfl
 | m + 1, now, fr, hl, ha, hi, hf => by
  have hc := h.pts
  refine PC.of_frz (AC.run (E_ok _) mix Tryz.func103 m103 rfl rfl rfl (Nat.le_of_ble_eq_true rfl) ?_) (by simp [bndL, AV.bnd]) (dropA_bnd _ _ _ _ _)
  have h1 : ¬ ((now.length : Int) = many) := by omega
  have ih : ∀ n : Nat, n < l.gives.length + 1 → PC Tryz.prog 103 [lineA l, sl (now ++ [(n : Int)]), .int .i64 many, .int .i64 off] (.pure (dropA (fun w => rTellsB l w off) (l.gives.length + 1) m (now ++ [(n : Int)]) (n + 1))) := fun n hn =>
   telling_pc l h off ho many hm m (now ++ [(n : Int)]) (n + 1) (by simp; omega) (.inr ⟨now.length, by simp, by
    rw [List.getElem?_append_right (Nat.le_refl _), Nat.sub_self]
    show some (n : Int) = _
    rw [show (((n + 1 : Nat) : Int) - 1) = n by omega]⟩) (now_next (fr := fr) hi hn) (by omega)
  have hA : dropA (fun w => rTellsB l w off) (l.gives.length + 1) (m + 1) now fr = match firstN (fun n => dropM (fun w => rTellsB l w off) (l.gives.length + 1) m (now ++ [(n : Int)]) (n + 1)) fr (l.gives.length + 1 - fr) with
   | some r => .tuple [sl r, .bool true]
   | none => .tuple [sl [], .bool false] := rfl
  rw [hA]
  have loop := tell_loop l (by omega) many off now (by omega) fr m (fun w => rTellsB l w off) (by omega) ih
  rcases ha with ⟨h0, rfl⟩ | ⟨k, hk1, hk2⟩
  ·have z : ¬ ((now.length : Int) > 0) := by omega
   simp only [go_sem, boxA, builtinA, h1, z, decide_false, reduceEqDiff, Nat.reduceBEq, reduceAdd, reduceIte, reduceCtorEq, reduceLeDiff]
   refine loop _ (fun r nt toks hr => ?_) (fun hr k => ?_)
   ·rw [hr]
    simp only [go_sem, Tryz.f103, reduceEqDiff, Nat.reduceBEq, reduceAdd, reduceIte, reduceCtorEq, reduceLeDiff]
    exact ⟨_, rfl, .same _⟩
   ·rw [hr]
    simp only [go_sem, Tryz.f103, reduceEqDiff, Nat.reduceBEq, reduceAdd, reduceIte, reduceCtorEq, reduceLeDiff]
    exact ⟨_, rfl, Frz.two .nil (.same _)⟩
  ·have z : (now.length : Int) > 0 := by omega
   have w1 : IntKind.i64.wrap ((now.length : Int) - 1) = (k : Nat) := by rw [wrap64 (by omega)]; omega
   have w2 : 0 ≤ (k : Int) ∧ (k : Int) < now.length := by omega
   have w3 : IntKind.i64.wrap ((fr : Int) - 1 + 1) = fr := by rw [wrap64 (by omega)]; omega
   simp only [go_sem, boxA, builtinA, h1, z, decide_false, decide_true, w1, w2, ints_get, hk2, Option.map_some, w3, reduceEqDiff, Nat.reduceBEq, reduceAdd, reduceIte, reduceCtorEq, reduceLeDiff]
   refine loop _ (fun r nt toks hr => ?_) (fun hr k => ?_)
   ·rw [hr]
    simp only [go_sem, Tryz.f103, reduceEqDiff, Nat.reduceBEq, reduceAdd, reduceIte, reduceCtorEq, reduceLeDiff]
    exact ⟨_, rfl, .same _⟩
   ·rw [hr]
    simp only [go_sem, Tryz.f103, reduceEqDiff, Nat.reduceBEq, reduceAdd, reduceIte, reduceCtorEq, reduceLeDiff]
    exact ⟨_, rfl, Frz.two .nil (.same _)⟩
def rPlanL (l : LLine) (off : Int) : Option (List Int) := shortestL (fun w => rTellsB l w off) (l.gives.length + 1)
def rPlanA (l : LLine) (off : Int) : AV := .tuple [sl ((rPlanL l off).getD []), .bool (rPlanL l off).isSome]
set_option maxHeartbeats 1000000 in
theorem rPlan_pc (l : LLine) (h : Lw l) (off : Int) (ho : 0 ≤ off ∧ off ≤ 20) : PC Tryz.prog 49 [lineA l, .int .i64 off] (.pure (rPlanA l off)) := by
 have hc := h.pts
 refine PC.of_frz (AC.run (E_ok _) mix Tryz.func49 m49 rfl rfl rfl (Nat.le_of_ble_eq_true rfl) ?_) (by simp [bndL, AV.bnd]) (by simp [rPlanA, bndL, AV.bnd])
 have hD : ∀ m : Nat, m ≤ 100 → PC Tryz.prog 103 [lineA l, sl [], .int .i64 m, .int .i64 off] (.pure (.tuple [sl ((searchL (fun w => rTellsB l w off) (l.gives.length + 1) m [] 0).getD []), .bool (searchL (fun w => rTellsB l w off) (l.gives.length + 1) m [] 0).isSome])) := fun m hm => by
  rw [← dropA0]
  exact telling_pc l h off ho m hm m [] 0 (by simp) (.inl ⟨rfl, rfl⟩) (fun p hp => by cases hp) (by omega)
 have hW : rPlanL l off = firstN (fun m => searchL (fun w => rTellsB l w off) (l.gives.length + 1) m [] 0) 0 (l.gives.length + 1 + 1) := rfl
 unfold rPlanA
 rw [hW]
 clear hW
 generalize hG : (fun m : Nat => searchL (fun w => rTellsB l w off) (l.gives.length + 1) m [] 0) = G
 have hD' : ∀ m : Nat, m ≤ 100 → PC Tryz.prog 103 [lineA l, sl [], .int .i64 m, .int .i64 off] (.pure (.tuple [sl ((G m).getD []), .bool (G m).isSome])) := fun m hm => by rw [← hG]; exact hD m hm
 clear hD hG
 generalize hWW : firstN G 0 (l.gives.length + 1 + 1) = W
 have w1 : IntKind.i64.wrap ((l.gives.length : Int) + 1) = (l.gives.length + 1 : Nat) := wrap64 (by omega)
 simp only [go_sem, boxA, reduceEqDiff, Nat.reduceBEq, reduceAdd, reduceIte, reduceCtorEq, reduceLeDiff]
 refine wc_forP (l.gives.length + 2) (fun k => W = firstN G k (l.gives.length + 2 - k)) (fun k => [(1, .int .i64 off), (2, .ref 0 0), (6, .int .i64 k)]) (fun _ => ⟨[some (.cells (lineC l))], 0, []⟩) hWW.symm rfl rfl ?_
 clear hWW
 intro k hk hP I hI
 obtain ⟨C, hB⟩ : ∃ C, l49_0 = .seq (.seq (.region [1, 2, 6, 14] r49_2) (.cond (.tmp 14) .skip (.exit 0))) C := ⟨_, rfl⟩
 have hB2 := hB
 rw [hB]
 by_cases g : k < l.gives.length + 2
 ·have h1 : (k : Int) ≤ (l.gives.length + 1 : Nat) := by omega
  have h4 : IntKind.i64.wrap ((k : Int) + 1) = (k + 1 : Nat) := wrap64 (by omega)
  have hI := hI g
  rw [show l.gives.length + 2 - k = (l.gives.length + 1 - k) + 1 by omega, firstN_step] at hP
  have hC := hD' k (by omega)
  simp only [go_sem, builtinA, w1, h1, decide_true, reduceEqDiff, Nat.reduceBEq, reduceAdd, reduceIte, reduceCtorEq, reduceLeDiff]
  unfold l49_0 at hB2
  injection hB2 with _ hB2
  subst hB2
  simp only [go_sem, reduceEqDiff, Nat.reduceBEq, reduceAdd, reduceIte, reduceCtorEq, reduceLeDiff]
  refine cp n103 hC (SubL.cons (Sub.refl _) (SubL.cons Sub.nil (SubL.refl _))) ?_
  cases hr : G k with
  | none =>
   rw [hr] at hP
   simp only [go_sem, extractA, Option.isSome_none, h4, reduceEqDiff, Nat.reduceBEq, reduceAdd, reduceIte, reduceCtorEq, reduceLeDiff]
   exact hI (by rw [hP, show l.gives.length + 2 - (k + 1) = l.gives.length + 1 - k by omega])
  | some r =>
   rw [hr] at hP
   have hg : (some r : Option (List Int)).getD [] = r := rfl
   simp only [go_sem, extractA, Option.isSome_some, hg, Tryz.f49, reduceEqDiff, Nat.reduceBEq, reduceAdd, reduceIte, reduceCtorEq, reduceLeDiff]
   rw [hP]
   exact ⟨_, rfl, .same _⟩
 ·have h1 : ¬ ((k : Int) ≤ (l.gives.length + 1 : Nat)) := by omega
  rw [show l.gives.length + 2 - k = 0 by omega] at hP
  simp only [go_sem, builtinA, w1, h1, decide_false, Tryz.f49, reduceEqDiff, Nat.reduceBEq, reduceAdd, reduceIte, reduceCtorEq, reduceLeDiff]
  rw [hP]
  exact ⟨_, rfl, Frz.two .nil (.same _)⟩
end Go.Av.Fx
end
